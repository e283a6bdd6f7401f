/- The walk of LexStrings. -/
import Derived.Test.YtlailomhgipppaaGreatDoorLexBytes
import Derived.Test.YtlailomhgipppaaGreatDoorLexSpell
namespace Go.Proofs.YtlailomhgipppaaGreatDoor
open Go.RowKit Lx
set_option linter.unusedVariables false
set_option linter.unusedSimpArgs false

def AhLoop (k : Nat) (w : World) (gk : Nat) (s5 s6 : Value) (wr : World) : Prop :=
  ∃ i : Nat, i + gk = k ∧ s6 = .int .i64 (i : Int) ∧ s5 = .string (bytes (List.replicate i 10)) ∧ wr = w
theorem rep_next (i : Nat) : bytes (List.replicate i 10) ++ ⟨#[10]⟩ = bytes (List.replicate (i + 1) 10) := by
  rw [show (⟨#[10]⟩ : ByteArray) = bytes [10] from rfl, bytes_append, ← List.replicate_succ']
theorem str_open (k : Nat) (l : List UInt8) : bytes (List.replicate k 10) ++ ⟨#[32]⟩ ++ (bytes (34 :: (hxs l ++ [34]))).extract 0 (1 + 4 * l.length) = bytes (List.replicate k 10 ++ 32 :: 34 :: hxs l) := by
  have h1 : (bytes (34 :: (hxs l ++ [34]))).extract 0 (1 + 4 * l.length) = bytes (34 :: hxs l) := by
    apply ByteArray.ext
    apply Array.ext'
    have hl := hxs_len l
    rw [ByteArray.data_extract, Array.toList_extract]
    simp only [bytes, List.extract_eq_take_drop, List.drop_zero, Nat.sub_zero]
    rw [show (34 :: (hxs l ++ [34])) = (34 :: hxs l) ++ [34] by simp, List.take_append_of_le_length (by simp; omega), List.take_of_length_le (by simp; omega)]
  rw [h1, show (⟨#[32]⟩ : ByteArray) = bytes [32] from rfl, bytes_append, bytes_append]
  simp
set_option maxRecDepth 100000 in
set_option maxHeartbeats 8000000 in
theorem lexStrings_walk (v : Value) (l : List UInt8) (a : Int) (w : World) (hF : FTab w) (hE : ErrVar w) (hv : BytesIn w v l) :
    Calls Tryz.prog 4 #[v, .int .i64 a] w fun e w' => e = .returned (.bool true) ∧ Below w.heap.size w w' := by
  have HLX : Hid (∀ W, Below w.heap.size w W → Calls Tryz.prog 6 #[] W fun e w' => e = .returned (.bool true) ∧ Below W.heap.size W w') := fun W hW => lexes_any W (hF.below hW) (hE.below hW)
  obtain ⟨k, hk, hk20⟩ := law_mod a 20 (by omega) (by omega)
  obtain ⟨ao, cap, rfl, _⟩ := id hv
  have HV := Lib.hid hv
  clear hv
  by_cases hbig : 4200 < l.length
  · have d1 : (4200 : Int) < (l.length : Int) := by omega
    clear hbig
    go_enter Tryz.func4, Tryz.ntmps4
    go_wp2_with (go_at_call 6; refine (HLX.out _ (Below.refl _ _)).mono ?_; rintro e w1 ⟨rfl, hb⟩; have HB1 := Lib.hid hb; clear hb; dsimp only)
    go_ret
    exact ⟨rfl, HB1.out⟩
  · have d1 : ¬ (4200 : Int) < (l.length : Int) := by omega
    have hcv := run_bytes_str HV.out
    have HSP : Hid (∀ W, Calls Tryz.prog 8 #[.agg #[.int .i64 4, .int .i64 0, .int .i64 0, .int .i64 0, .string (bytes l)]] W fun e w' => e = .returned (.string (bytes (34 :: (hxs l ++ [34])))) ∧ Below W.heap.size W w') := fun W => spell_four 0 0 0 l (by omega) W
    have HS2 : Hid (∀ W, Below w.heap.size w W → Calls Tryz.prog 7 #[.string (bytes (List.replicate k 10) ++ ⟨#[32]⟩ ++ (bytes (34 :: (hxs l ++ [34]))).extract 0 (1 + 4 * l.length))] W fun e w' => e = .returned (.tuple #[.slice none 0 0, .agg #[.int .i64 ((1 + k : Nat) : Int), .int .i64 2], .int .i64 10]) ∧ Below W.heap.size W w') := fun W hW => by
      rw [str_open]
      refine scan_bad (x := (1 + k, 2)) (by rw [bytes_size]; have := hxs_len l; simp; omega) (hF.below hW) (hE.below hW) ?_
      rw [show (bytes (List.replicate k 10 ++ 32 :: 34 :: hxs l)).data.toList = List.replicate k 10 ++ 32 :: 34 :: hxs l by simp [bytes], scan_open]
    have HSZ : Hid ((bytes (34 :: (hxs l ++ [34]))).size = 1 + 4 * l.length + 1) := by show _ = _; rw [bytes_size]; have := hxs_len l; simp; omega
    have hl2 : l.length ≤ 4200 := by omega
    have HS0 : Hid (∀ W, Below w.heap.size w W → FTab W ∧ ErrVar W) := fun W hW => ⟨hF.below hW, hE.below hW⟩
    clear hF hE hbig
    have HSB : Hid (4096 < l.length → ∀ W, Below w.heap.size w W → Calls Tryz.prog 7 #[.string (bytes (List.replicate k 10) ++ bytes (34 :: (hxs l ++ [34])))] W fun e w' => e = .returned (.tuple #[.slice none 0 0, .agg #[.int .i64 ((1 + k : Nat) : Int), .int .i64 1], .int .i64 10]) ∧ Below W.heap.size W w') := fun h W hW => by
      rw [bytes_append]
      refine scan_bad (x := (1 + k, 1)) (by rw [bytes_size]; have := hxs_len l; simp; omega) (HS0.out W hW).1 (HS0.out W hW).2 ?_
      rw [show (bytes (List.replicate k 10 ++ 34 :: (hxs l ++ [34]))).data.toList = List.replicate k 10 ++ 34 :: (hxs l ++ [34]) by simp [bytes], scan_str, if_pos h]
    have HSC : Hid (¬ 4096 < l.length → ∀ W, Below w.heap.size w W → Calls Tryz.prog 7 #[.string (bytes (List.replicate k 10) ++ bytes (34 :: (hxs l ++ [34])))] W fun e w' => ∃ vo, e = .returned (.tuple #[vo, .agg #[.int .i64 0, .int .i64 0], .int .i64 0]) ∧ TRow w' W.heap.size vo [⟨4, 1 + k, 1, 0, l⟩] ∧ Below W.heap.size W w') := fun h W hW => by
      rw [bytes_append]
      refine scan_ok (by rw [bytes_size]; have := hxs_len l; simp; omega) (HS0.out W hW).1 (HS0.out W hW).2 ?_
      rw [show (bytes (List.replicate k 10 ++ 34 :: (hxs l ++ [34]))).data.toList = List.replicate k 10 ++ 34 :: (hxs l ++ [34]) by simp [bytes], scan_str, if_neg h]
    obtain ⟨S, hS⟩ : ∃ S, S = bytes (34 :: (hxs l ++ [34])) := ⟨_, rfl⟩
    obtain ⟨m, hm⟩ : ∃ m, m = 1 + 4 * l.length := ⟨_, rfl⟩
    rw [← hS] at HSP HSB HSC HS2 HSZ
    rw [← hm] at HS2 HSZ
    have hsz : (S.size : Int) = (m : Int) + 1 := by have := HSZ.out; omega
    have hm2 : (m : Int) ≤ 20000 := by omega
    have hm0 : (0 : Int) ≤ (m : Int) := by omega
    have hms : (m : Int) ≤ (S.size : Int) := by omega
    have HL2 := Lib.hid hl2
    clear hS hm hl2
    go_enter Tryz.func4, Tryz.ntmps4
    go_wp2
    rw [show wrap64 ((IntKind.u64.wrap a).tmod 20) = (k : Int) from hk]
    have hk1 : (k : Int) ≤ 19 := by omega
    have hk0 : (0 : Int) ≤ (k : Int) := by omega
    clear hk
    go_loopg [5, 6] k (fun gk s5 s6 wr => AhLoop k w gk s5 s6 wr)
    case atStart => exact ⟨0, by omega, rfl, rfl, rfl⟩
    case round =>
      obtain ⟨i, hi, rfl, rfl, rfl⟩ := hrel
      have HI := Lib.hid hi
      by_cases hlt : i < k
      · have i1 : (i : Int) < (k : Int) := by omega
        have i0 : (0 : Int) ≤ (i : Int) := by omega
        have hs1 : ¬ 9223372036854775807 < (bytes (List.replicate i 10)).size + 1 := by rw [bytes_size]; simp; omega
        have HLT := Lib.hid hlt
        clear hi hlt
        go_wp2
        go_roundg (gk - 1)
        case measure => have := HI.out; have := HLT.out; omega
        case rel => exact ⟨i + 1, by have := HI.out; have := HLT.out; omega, by go_num, by rw [rep_next], rfl⟩
      · have i1 : ¬ (i : Int) < (k : Int) := by omega
        obtain rfl : i = k := by omega
        have hs1 : ¬ 9223372036854775807 < (bytes (List.replicate i 10)).size + S.size := by rw [bytes_size]; simp; omega
        have hs2 : ¬ 9223372036854775807 < (bytes (List.replicate i 10)).size + 1 := by rw [bytes_size]; simp; omega
        have hs3 : ¬ 9223372036854775807 < (bytes (List.replicate i 10)).size + 1 + (S.extract 0 m).size := by rw [bytes_size, ByteArray.size_extract]; simp; omega
        clear hi hlt
        by_cases h96 : 4096 < l.length
        · have d2 : (4096 : Int) < (l.length : Int) := by omega
          replace HSB := Lib.hid (HSB.out h96)
          clear HSC h96
          go_wp2_with (first
            | (go_at_call 8; (with_reducible refine (HSP.out _).mono ?_); rintro e w1 ⟨rfl, hb⟩; have HB1 := Lib.hid hb; clear hb HSP; dsimp only)
            | (go_at_call 7; (with_reducible refine (HSB.out _ HB1.out).mono ?_); rintro e w2 ⟨rfl, hb⟩; have HB2 := Lib.hid ((HB1.out.trans (hb.mono HB1.out.size)).alloc (HB1.out.trans (hb.mono HB1.out.size)).size (.cells #[.int .i64 (1 + (i : Int)), .int .i64 1] 26)); clear hb HSB HB1; dsimp only)
            | (go_at_call 7; (with_reducible refine (HS2.out _ HB2.out).mono ?_); rintro e w3 ⟨rfl, hb⟩; have HB3 := Lib.hid ((HB2.out.trans (hb.mono HB2.out.size)).alloc (HB2.out.trans (hb.mono HB2.out.size)).size (.cells #[.int .i64 (1 + (i : Int)), .int .i64 2] 26)); have HBr := Lib.hid hb; clear hb HS2 HB2; dsimp only)
            | (go_at_call 6; (with_reducible refine (HLX.out _ HB3.out).mono ?_); rintro e w4 ⟨rfl, hb⟩; have HB4 := Lib.hid (HB3.out.trans (hb.mono HB3.out.size)); obtain ⟨m0, m1⟩ := box2 ((hb.block w3.heap.size (by simp)).trans (heap_alloc_new w3 _)); obtain ⟨m2, m3⟩ := box2 ((hb.block w2.heap.size (by have := HBr.out.size; simp at this ⊢; omega)).trans ((heap_alloc_old _ _ (by have := HBr.out.size; simp at this; omega)).trans ((HBr.out.block _ (by simp)).trans (heap_alloc_new w2 _)))); clear hb HB3; dsimp only))
          go_ret
          exact ⟨rfl, HB4.out⟩
        · have d2 : ¬ (4096 : Int) < (l.length : Int) := by omega
          have HSC2 := Lib.hid (HSC.out h96)
          clear HSC HSB h96
          go_wp2_with (first
            | (go_at_call 8; (with_reducible refine (HSP.out _).mono ?_); rintro e w1 ⟨rfl, hb⟩; have HB1 := Lib.hid hb; clear hb HSP; dsimp only)
            | (go_at_call 7; (with_reducible refine (HSC2.out _ HB1.out).mono ?_); rintro e w2 ⟨vo, rfl, hr, hb⟩; have HR2 := Lib.hid (hr.below ((Below.refl _ _).alloc (Nat.le_refl _) (.cells #[.int .i64 0, .int .i64 0] 26))); have HB2 := Lib.hid ((HB1.out.trans (hb.mono HB1.out.size)).alloc (HB1.out.trans (hb.mono HB1.out.size)).size (.cells #[.int .i64 0, .int .i64 0] 26)); clear hb hr HSC2 HB1; dsimp only)
            | (go_at_call 7; (with_reducible refine (HS2.out _ HB2.out).mono ?_); rintro e w3 ⟨rfl, hb⟩; replace HR2 := Lib.hid ((HR2.out.below hb).below ((Below.refl _ _).alloc (Nat.le_refl _) (.cells #[.int .i64 (1 + (i : Int)), .int .i64 2] 26))); have HB3 := Lib.hid ((HB2.out.trans (hb.mono HB2.out.size)).alloc (HB2.out.trans (hb.mono HB2.out.size)).size (.cells #[.int .i64 (1 + (i : Int)), .int .i64 2] 26)); clear hb HS2 HB2; dsimp only)
            | (go_at_call 6; (with_reducible refine (HLX.out _ HB3.out).mono ?_); rintro e w4 ⟨rfl, hb⟩; have HB4 := Lib.hid (HB3.out.trans (hb.mono HB3.out.size)); replace HR2 := Lib.hid (HR2.out.below hb); obtain ⟨m0, m1⟩ := box2 ((hb.block w3.heap.size (by simp)).trans (heap_alloc_new w3 _)); clear hb HB3; dsimp only))
          have hc4 : ∀ n, (convert 42 9 (.slice ao l.length cap)).run Tryz.prog (w4.drewN n) = .ok (.string (bytes l)) (w4.drewN n) := fun n => run_bytes_str ((HV.out.below HB4.out).below (below_drewN (Below.refl _ _) n))
          obtain ⟨g, cg, rfl, hcg, hcl⟩ : ∃ g cg, vo = .slice (some ⟨g, 0, none⟩) 1 cg ∧ 1 ≤ cg ∧ ∀ (j : Nat) v, (tcells [⟨4, 1 + i, 1, 0, l⟩])[j]? = some v → w4.cell? ⟨g, j, none⟩ = some v := by
            rcases HR2.out.form with ⟨h1, _⟩ | ⟨g, cg, h1, h2, h3⟩
            · cases h1
            · exact ⟨g, cg, h1, h2, h3⟩
          have x0 := hcl 0 _ rfl
          have x4 := hcl 4 _ rfl
          clear hcl HR2
          go_quiet (fail)
          go_wp2
          go_ret
          exact ⟨rfl, below_drewN HB4.out _⟩
end Go.Proofs.YtlailomhgipppaaGreatDoor
