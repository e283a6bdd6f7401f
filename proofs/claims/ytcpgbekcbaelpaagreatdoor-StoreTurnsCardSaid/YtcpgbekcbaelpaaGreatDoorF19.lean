/- Texts of the proof, in build order: StCat, StClo, StWl. -/
import Derived.Test.YtcpgbekcbaelpaaGreatDoorF14
import Derived.Test.YtcpgbekcbaelpaaGreatDoorF13
import Derived.Test.YtcpgbekcbaelpaaGreatDoorF06
import Derived.Deep.AppendLies
set_option linter.unusedVariables false
set_option linter.unusedSimpArgs false
set_option linter.unusedSectionVars false
/- Layer 7: slices.Concat of rows of bytes. -/
namespace Go.Proofs.YtcpgbekcbaelpaaGreatDoor
open Go.RowKit Go.Maps Wr
set_option linter.unusedVariables false
set_option linter.unusedSimpArgs false
theorem grow_none (n : Nat) (hn : n ≤ 1000000000) (w : World) :
    Calls Tryz.prog (Tryz.growF_ren.f 4) #[.slice none 0 0, .int .i64 n] w fun e w' => ∃ v, e = .returned v ∧ ByteRow w' w.heap.size v [] ∧ Below w.heap.size w w' := by
  obtain ⟨i0, hi, hz0, hz1, hz2⟩ := info_parts infoB
  by_cases h0 : n = 0
  · subst h0
    refine (Any8.slices_Grow_room Tryz.growF none 0 0 0 w (by omega) (by omega) (by omega) (by omega)).mono ?_
    rintro e w' ⟨rfl, rfl⟩
    exact ⟨_, rfl, ⟨Row.nil _ _, fun k h => by simp [Value.ownBlock] at h⟩, Below.refl _ _⟩
  · refine (Any8.slices_Grow_grow Tryz.growF i0 (.int .u8 0) hi hz0 (by omega) none 0 0 n [] w (by omega) (by omega) (by rw [hz2]; omega) (by omega) (by simp) (fun _ => rfl) (fun a h => by cases h)).mono ?_
    rintro e w' ⟨rfl, rfl⟩
    have h1 := grownCap_ge w (0 + n) 0 (Tryz.growF_ren.t 25)
    have h2 := grownCap_le_maxLen w (0 + n) 0 (Tryz.growF_ren.t 25) (by unfold maxLen; omega)
    have h3 := h1
    rw [Nat.zero_add] at h3
    refine ⟨_, rfl, ⟨⟨rfl, .inr ⟨w.heap.size, _, _, rfl, Nat.zero_le _, heap_alloc_new w.drew _, Nat.zero_le _, h2, ?_, rfl⟩⟩, fun k hk => by simp only [Value.ownBlock, Option.some.injEq] at hk; omega⟩, ?_⟩
    · simp [size_zeroCells, Value.cells]; omega
    · exact (below_drewN (Below.refl _ _) 1).alloc (Nat.le_refl _) _
def CatS (ls : List (List UInt8)) (w : World) (gk : Nat) (s5 s6 : Value) (wr : World) : Prop :=
  ∃ (i z : Nat), s6 = .int .i64 (i : Int) ∧ i + gk = ls.length ∧ s5 = .int .i64 (z : Int) ∧ z = (ls.take i).flatten.length ∧ w = wr
def CatA (ls : List (List UInt8)) (N : Nat) (w : World) (gk : Nat) (s5 s6 : Value) (wr : World) : Prop :=
  ∃ i : Nat, s6 = .int .i64 (i : Int) ∧ i + gk = ls.length ∧ ByteRow wr N s5 (ls.take i).flatten ∧ Below N w wr
theorem flat_take {ls : List (List UInt8)} {i : Nat} {l : List UInt8} (h : ls[i]? = some l) : (ls.take (i + 1)).flatten = (ls.take i).flatten ++ l := by
  rw [List.take_add_one, h]
  simp
theorem flat_take_le (ls : List (List UInt8)) (i : Nat) : (ls.take i).flatten.length ≤ ls.flatten.length := by
  have : ls.flatten = (ls.take i).flatten ++ (ls.drop i).flatten := by rw [← List.flatten_append, List.take_append_drop]
  rw [this, List.length_append]
  omega
set_option maxRecDepth 100000 in
set_option maxHeartbeats 3200000 in
theorem concat_any (ls : List (List UInt8)) (w : World) (g : Nat) (hne : ∀ l ∈ ls, l ≠ []) (hlen : ls.flatten.length ≤ 500000000) (hk : ls.length ≤ 1000000)
    (hv : ∀ i l, ls[i]? = some l → ∃ v M, w.cell? ⟨g, i, none⟩ = some v ∧ ByteRow w M v l) :
    Calls Tryz.prog 93 #[.slice (some ⟨g, 0, none⟩) ls.length ls.length] w (RowEnd w w.heap.size ls.flatten) := by
  have HV : Hid (∀ i l, ls[i]? = some l → ∃ v M, w.cell? ⟨g, i, none⟩ = some v ∧ ByteRow w M v l) := hv
  have HNE := Lib.hid hne
  have HLEN := Lib.hid hlen
  have hk2 : (ls.length : Int) ≤ 1000000 := by omega
  clear hv hne hlen
  go_enter Tryz.func93, Tryz.ntmps93
  go_wp2
  go_loopg [3, 11] ls.length (fun gk s3 s11 wr => CatS ls w gk s3 s11 wr)
  case atStart => exact ⟨0, 0, rfl, by omega, rfl, rfl, rfl⟩
  case round =>
    obtain ⟨i, z, rfl, hik, rfl, hz, rfl⟩ := hrel
    have HZ := Lib.hid hz
    have hz1 := flat_take_le ls i
    have hz2 : (z : Int) ≤ 500000000 := by have := HLEN.out; omega
    clear hz hz1
    by_cases hlt : i < ls.length
    · have g1 : (i : Int) < (ls.length : Int) := by omega
      have g0 : (0 : Int) ≤ (i : Int) := by omega
      obtain ⟨l, hl⟩ : ∃ l, ls[i]? = some l := ⟨_, List.getElem?_eq_getElem hlt⟩
      obtain ⟨v, M, p0, hr⟩ := HV.out i l hl
      obtain ⟨ao, cap, rfl, _⟩ := hr.form
      have hft := flat_take hl
      have hz3 := flat_take_le ls (i + 1)
      rw [hft, List.length_append] at hz3
      obtain ⟨ll, hll⟩ : ∃ ll, l.length = ll := ⟨_, rfl⟩
      rw [hll] at p0 hz3
      have hs1 : (z : Int) + (ll : Int) ≤ 500000000 := by have := HLEN.out; have := HZ.out; omega
      have hs0 : ¬ ((z : Int) + (ll : Int) < 0) := by omega
      have hll0 : (0 : Int) ≤ (ll : Int) := by omega
      have HN : Hid (z + ll = (ls.take (i + 1)).flatten.length) := by show _ = _; rw [hft, List.length_append, ← HZ.out, hll]
      clear hft hz3 hll hl hr
      go_wp2
      go_roundg (gk - 1)
      case measure => omega
      case rel => exact ⟨i + 1, z + ll, by go_num, by omega, by go_num, HN.out, rfl⟩
    · have g1 : ¬ (i : Int) < (ls.length : Int) := by omega
      have HN : Hid (z = ls.flatten.length) := by show _ = _; rw [HZ.out, List.take_of_length_le (by omega)]
      have HG : Hid (Calls Tryz.prog 142 #[.slice none 0 0, .int .i64 (z : Int)] w fun e w' => ∃ v, e = .returned v ∧ ByteRow w' w.heap.size v [] ∧ Below w.heap.size w w') := grow_none z (by omega) w
      go_wp2_with (go_at_call 142; refine HG.out.mono ?_; rintro e w1 ⟨v1, rfl, hv1, hb1⟩; have HV1 := Lib.hid hv1; have HB1 := Lib.hid hb1; clear hv1 hb1)
      have HN1 : Hid (w.heap.size ≤ w1.heap.size) := HB1.out.size
      go_loopg [6, 27] ls.length (fun gk s6 s27 wr => CatA ls w.heap.size w gk s6 s27 wr)
      case atStart => exact ⟨0, rfl, by omega, HV1.out, HB1.out⟩
      case round =>
        obtain ⟨i, rfl, hik, hrow, hbw⟩ := hrel
        have HR := Lib.hid hrow
        have HB := Lib.hid hbw
        clear hrow hbw
        by_cases hlt : i < ls.length
        · have g1 : (i : Int) < (ls.length : Int) := by omega
          have g0 : (0 : Int) ≤ (i : Int) := by omega
          obtain ⟨l, hl⟩ : ∃ l, ls[i]? = some l := ⟨_, List.getElem?_eq_getElem hlt⟩
          obtain ⟨v, M, p0, hr⟩ := HV.out i l hl
          have HRL : Hid (ByteRow wr M v l) := hr.below HB.out
          have p1 : wr.cell? ⟨g, i, none⟩ = some v := (HB.out.cell (p := ⟨g, i, none⟩) (half_lt p0)).trans p0
          have HLN : Hid (l ≠ []) := HNE.out l (List.mem_of_getElem? hl)
          have hft := flat_take hl
          have hz3 := flat_take_le ls (i + 1)
          rw [hft, List.length_append] at hz3
          have HLE : Hid ((ls.take i).flatten.length + l.length ≤ 1000000000) := by show _ ≤ _; have := HLEN.out; omega
          have HFT := Lib.hid hft
          clear hft hz3 hl hr p0
          go_wp2_with (at_builtin; (refine wpList_appb rfl _ _ rfl rfl HR.out rfl HRL.out HLN.out (HB.out.size) HLE.out ?_; intro v' w' hnew hown; have HNEW := Lib.hid hnew; have HOWN := Lib.hid hown; clear hnew hown))
          go_roundg (gk - 1)
          case measure => omega
          case rel => exact ⟨i + 1, by go_num, by omega, by rw [HFT.out]; exact HNEW.out, HB.out.trans (HOWN.out.below HB.out.size HR.out.2)⟩
        · have g1 : ¬ (i : Int) < (ls.length : Int) := by omega
          go_wp2
          go_ret
          refine ⟨_, rfl, ?_, HB.out⟩
          have := HR.out
          rw [List.take_of_length_le (by omega)] at this
          exact this
end Go.Proofs.YtcpgbekcbaelpaaGreatDoor
/- Layer 7: bytes, and their sum behind them. -/
namespace Go.Proofs.YtcpgbekcbaelpaaGreatDoor
open Go.RowKit Go.Maps Wr
set_option linter.unusedVariables false
set_option linter.unusedSimpArgs false
def St.close' (b : List UInt8) (n : Nat) : List UInt8 := b ++ St.tail4 n
theorem clo_cell (w : World) (v : Value) (t : TypeId) : (w.alloc (.cells #[v] t)).cell? ⟨w.heap.size, 0, none⟩ = some v := by
  unfold World.cell?
  rw [heap_alloc_new]
  rfl
theorem clo_cell2 (w : World) (v u : Value) (t : TypeId) : (w.alloc (.cells #[v, u] t)).cell? ⟨w.heap.size, 0, none⟩ = some v ∧ (w.alloc (.cells #[v, u] t)).cell? ⟨w.heap.size, 1, none⟩ = some u := by
  unfold World.cell?
  rw [heap_alloc_new]
  exact ⟨rfl, rfl⟩
theorem clo_ne {b : List UInt8} {n : Nat} (h : b ≠ []) : ∀ l ∈ [b, St.tail4 n], l ≠ [] := fun l hl => by
  rcases List.mem_cons.1 hl with e | e
  · rw [e]; exact h
  · rw [List.mem_singleton.1 e]; exact fun h2 => by cases h2
theorem clo_len {b : List UInt8} {n : Nat} (h : b.length ≤ 400000000) : ([b, St.tail4 n] : List (List UInt8)).flatten.length ≤ 500000000 := by
  show (b ++ (St.tail4 n ++ [])).length ≤ _
  rw [List.length_append, List.append_nil]
  show b.length + 4 ≤ _
  omega
theorem clo_rows {b c : List UInt8} {w w2 : World} {M N : Nat} {v u : Value} {t : TypeId} (hb : ByteRow w M v b) (hc : ByteRow w2 N u c) (hw : Below w.heap.size w w2) :
    ∀ i l, ([b, c] : List (List UInt8))[i]? = some l → ∃ x K, (w2.alloc (.cells #[v, u] t)).cell? ⟨w2.heap.size, i, none⟩ = some x ∧ ByteRow (w2.alloc (.cells #[v, u] t)) K x l
  | 0, l, h => by
    cases h
    exact ⟨v, M, (clo_cell2 w2 v u t).1, (hb.below hw).below ((Below.refl _ _).alloc (Nat.le_refl _) _)⟩
  | 1, l, h => by
    cases h
    exact ⟨u, N, (clo_cell2 w2 v u t).2, hc.below ((Below.refl _ _).alloc (Nat.le_refl _) _)⟩
  | i + 2, l, h => by cases h
theorem concat2_any {b : List UInt8} {n M N : Nat} {w w2 : World} {v u : Value} {t : TypeId} (hne : b ≠ []) (hl : b.length ≤ 400000000) (hb : ByteRow w M v b) (hc : ByteRow w2 N u (St.tail4 n)) (hw : Below w.heap.size w w2) :
    Calls Tryz.prog 93 #[.slice (some ⟨w2.heap.size, 0, none⟩) 2 2] (w2.alloc (.cells #[v, u] t)) fun e w' => ∃ x, e = .returned x ∧ ByteRow w' w.heap.size x (St.close' b n) ∧ Below w.heap.size w w' := by
  refine (concat_any [b, St.tail4 n] (w2.alloc (.cells #[v, u] t)) w2.heap.size (clo_ne hne) (clo_len hl) (by show 2 ≤ 1000000; omega) (clo_rows hb hc hw)).mono ?_
  rintro e w3 ⟨cv, rfl, h1, h2⟩
  have hs := hw.size
  have hs2 : w.heap.size ≤ (w2.alloc (.cells #[v, u] t)).heap.size := by simp; omega
  refine ⟨cv, rfl, ⟨?_, fun k hk => by have := h1.2 k hk; omega⟩, (hw.alloc hs _).trans (h2.mono hs2)⟩
  have h3 := h1.1
  have e : ([b, St.tail4 n] : List (List UInt8)).flatten = St.close' b n := by simp [St.close']
  rw [e] at h3
  exact h3
set_option maxRecDepth 100000 in
set_option maxHeartbeats 3200000 in
theorem crcClose_any (b : List UInt8) (w : World) (M : Nat) (v : Value) (hT : Half w) (hb : ByteRow w M v b) (hne : b ≠ []) (hl : b.length ≤ 400000000) :
    Calls Tryz.prog 145 #[v] w (RowEnd w w.heap.size (St.close b)) := by
  have HS : Hid (∀ W g, Below w.heap.size w W → W.cell? ⟨g, 0, none⟩ = some v → Calls Tryz.prog 103 #[.slice (some ⟨g, 0, none⟩) 1 1] W fun e w' => e = .returned (.int .u32 ((St.crc b : Nat) : Int)) ∧ W = w') :=
    fun W g hW hc => crcSum_any b W M v g (hT.below hW) (hb.below hW) (by omega) hc
  have HTL : Hid (∀ W, Calls Tryz.prog 174 #[.int .u32 ((St.crc b : Nat) : Int)] W fun e w' => RowEnd W W.heap.size (St.tail4 (St.crc b)) e w') :=
    fun W => crcTail_any _ (by unfold St.crc St.crcMore; omega) W
  have HB := Lib.hid hb
  have HNE := Lib.hid hne
  have HL := Lib.hid hl
  obtain ⟨ao, cap, rfl, _⟩ := hb.form
  clear hT hb hne hl
  go_enter Tryz.func145, Tryz.ntmps145
  go_wp2_with (first
    | (go_at_call 103; refine (HS.out _ _ ((Below.refl _ _).alloc (Nat.le_refl _) _) (clo_cell _ _ _)).mono ?_; rintro e w1 ⟨rfl, rfl⟩)
    | (go_at_call 174; refine (HTL.out _).mono ?_; rintro e w2 ⟨tv, rfl, ht, hb2⟩; have HT2 := Lib.hid ht; have HB2 : Hid (Below w.heap.size w w2) := ((Below.refl _ _).alloc (Nat.le_refl _) _).trans (hb2.mono (by simp)); obtain ⟨ao2, cap2, rfl, _⟩ := ht.form; clear ht hb2)
    | (go_at_call 93; refine (concat2_any HNE.out HL.out HB.out HT2.out HB2.out).mono ?_; rintro e w3 ⟨cv, rfl, hc, hb3⟩; have HC := Lib.hid hc; have HB3 := Lib.hid hb3; clear hc hb3))
  go_ret
  exact ⟨_, rfl, HC.out, HB3.out⟩
end Go.Proofs.YtcpgbekcbaelpaaGreatDoor
/- Layer 7: the log's small words. -/
namespace Go.Proofs.YtcpgbekcbaelpaaGreatDoor
open Go.RowKit Go.Maps Wr
set_option linter.unusedVariables false
set_option linter.unusedSimpArgs false
set_option maxRecDepth 100000 in
theorem walNeed_any (n : Nat) (hn : n ≤ 1000000000) (w : World) :
    Calls Tryz.prog 94 #[.int .i64 n] w fun e w' => e = .returned (.int .i64 ((St.need n : Nat) : Int)) ∧ w = w' := by
  have h2 : wrap64 ((n : Int) + 511) = (n : Int) + 511 := by unfold wrap64; omega
  have HN : Hid ((1 : Int) + ((n : Int) + 510) / 511 = ((St.need n : Nat) : Int)) := by show _ = _; unfold St.need; omega
  go_enter Tryz.func94, Tryz.ntmps94
  go_wp2
  go_ret
  refine ⟨?_, rfl⟩
  show Ending.returned (Value.int IntKind.i64 (1 + ((n : Int) + 511 - 1) / 511)) = _
  rw [show (n : Int) + 511 - 1 = (n : Int) + 510 by omega, HN.out]
set_option maxRecDepth 100000 in
theorem walSlot_any (n : Nat) (hn : n ≤ 4611686018427387904) (w : World) :
    Calls Tryz.prog 108 #[.int .i64 n] w fun e w' => e = .returned (.int .i64 (1 - (n : Int) % 2)) ∧ w = w' := by
  go_enter Tryz.func108, Tryz.ntmps108
  go_wp2
  go_ret
  exact ⟨rfl, rfl⟩
end Go.Proofs.YtcpgbekcbaelpaaGreatDoor
