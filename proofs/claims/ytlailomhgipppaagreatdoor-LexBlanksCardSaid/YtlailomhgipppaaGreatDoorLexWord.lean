/- The document's word "0.5". -/
import Derived.Test.YtlailomhgipppaaGreatDoorLexBlankP
import Derived.Test.YtlailomhgipppaaGreatDoorLexWalk1
import Derived.Test.YtlailomhgipppaaGreatDoorRefFl
import Derived.Test.YtlailomhgipppaaGreatDoorRefRead
namespace Go.Proofs.YtlailomhgipppaaGreatDoor
open Go.RowKit Lx
set_option linter.unusedVariables false
set_option linter.unusedSimpArgs false

set_option maxRecDepth 100000 in
set_option maxHeartbeats 1600000 in
theorem refEight_any (x : Nat) (hx : x < 18446744073709551616) (w : World) :
    Calls Tryz.prog 18 #[.int .u64 x] w fun e w' => e = .returned (.string (bytes (eight x))) ∧ Below w.heap.size w w' := by
  go_enter Tryz.func18, Tryz.ntmps18
  go_wp2
  go_loopg [3, 4] 8 (fun gk s3 s4 wr => BLoop w.heap.size w x gk s3 s4 wr)
  case atStart => exact ⟨0, by omega, rfl, rfl, ⟨Row.nil _ _, fun k hk => by simp [Value.ownBlock] at hk⟩, Below.refl _ _, Nat.le_refl _⟩
  case round =>
    obtain ⟨j, hj, rfl, rfl, hr, hb, hN⟩ := hrel
    by_cases hlt : j < 8
    · obtain ⟨k, hk⟩ : ∃ k : Nat, (56 - 8 * (j : Int)) = (k : Int) := ⟨56 - 8 * j, by omega⟩
      have hk2 : k = 56 - 8 * j := by omega
      have HK := Lib.hid hk2
      have HJ := Lib.hid hj
      have h0 : (0 : Int) ≤ (k : Int) := by omega
      have h56 : (k : Int) ≤ 56 := by omega
      rw [hk]
      have HR := Lib.hid hr
      have HB := Lib.hid hb
      have HN := Lib.hid hN
      obtain ⟨ao, cap, rfl, _, _⟩ := HR.out.form
      generalize hn : ((eight x).take j).length = n at *
      have HNR := Lib.hid (new_row wr [UInt8.ofNat (x / 2 ^ k)] #[.int .u8 ((x : Int) / 2 ^ k % 256)] (by simp [bvals, UInt8.toNat_ofNat']) (by simp))
      clear hk hk2 hj hr hb hN hx hn
      go_wp2_with (at_builtin; go_loud (refine wpList_appb (w := wr.alloc (.cells #[.int .u8 ((x : Int) / 2 ^ k % 256)] 5)) rfl _ _ rfl (v := .slice ao n cap) (vx := .slice (some ⟨wr.heap.size, 0, none⟩) 1 1) rfl (HR.out.below ((Below.refl _ _).alloc (Nat.le_refl _) _)) rfl HNR.out (by simp) (by have := HN.out; simp; omega) (by have := HJ.out; simp [eight]; omega) ?_); intro v' w1 hr1 hs1; have HR1 := Lib.hid hr1; have HS1 := Lib.hid hs1; clear hr1 hs1)
      go_roundg (8 - (j + 1))
      case measure => have := HJ.out; omega
      case rel =>
        have := HJ.out
        have hw1 : Below w.heap.size wr w1 := by
          have h1 : Chg (Value.slice ao n cap).ownBlock.toList wr (wr.alloc (.cells #[.int .u8 ((x : Int) / 2 ^ k % 256)] 5)) := (Chg.refl _ _).alloc _
          exact (h1.below HN.out (fun i hi => HR.out.2 i (by simpa using hi))).trans (HS1.out.below (by have := HN.out; simp; omega) HR.out.2)
        exact ⟨j + 1, by omega, by omega, by have := HK.out; congr 1; omega, by rw [eight_at x j (by omega), ← HK.out]; exact HR1.out, HB.out.trans hw1, Nat.le_trans HN.out hw1.size⟩
    · have HR := Lib.hid hr
      have HB := Lib.hid hb
      have HN := Lib.hid hN
      obtain rfl : j = 8 := by omega
      clear hj hr hb hN hlt hx
      have HC := Lib.hid (run_row_str HR.out (by simp [eight]))
      have hc := HC.out
      go_wp2
      go_ret
      exact ⟨rfl, HB.out⟩
theorem bxs5 {W : World} {p : Nat} {a b c d e : Value} {t : TypeId} (h : W.heap[p]? = some (.cells #[a, b, c, d, e] t (0, 0))) :
    (W.cell? ⟨p, 0, none⟩ = some a ∧ W.cell? ⟨p, 1, none⟩ = some b ∧ W.cell? ⟨p, 2, none⟩ = some c ∧ W.cell? ⟨p, 3, none⟩ = some d ∧ W.cell? ⟨p, 4, none⟩ = some e) ∧ ∀ j, W.frozen? ⟨p, j, none⟩ = false := by
  constructor
  · simp [World.cell?, h]
  · intro j; simp [World.frozen?, h]
theorem five_stored {W : World} {p : Nat} {a b c d e y0 y1 y2 y3 y4 : Value} {t : TypeId} (h : W.heap[p]? = some (.cells #[a, b, c, d, e] t (0, 0))) :
    (((((W.setCell ⟨p, 0, none⟩ y0).setCell ⟨p, 1, none⟩ y1).setCell ⟨p, 2, none⟩ y2).setCell ⟨p, 3, none⟩ y3).setCell ⟨p, 4, none⟩ y4).heap[p]? = some (.cells #[y0, y1, y2, y3, y4] t (0, 0)) :=
  set_block (set_block (set_block (set_block (set_block h))))
theorem five_stores {F : List Nat} {a b : World} (h : Chg F a b) {p : Nat} (hp : p ∈ F ∨ a.heap.size ≤ p) (x0 x1 x2 x3 x4 : Value) : Chg F a (((((b.setCell ⟨p, 0, none⟩ x0).setCell ⟨p, 1, none⟩ x1).setCell ⟨p, 2, none⟩ x2).setCell ⟨p, 3, none⟩ x3).setCell ⟨p, 4, none⟩ x4) :=
  ((((h.setCell (p := ⟨p, 0, none⟩) hp x0).setCell (p := ⟨p, 1, none⟩) hp x1).setCell (p := ⟨p, 2, none⟩) hp x2).setCell (p := ⟨p, 3, none⟩) hp x3).setCell (p := ⟨p, 4, none⟩) hp x4
set_option maxRecDepth 100000 in
set_option maxHeartbeats 1600000 in
theorem word_half_any (w : World) :
    Calls Tryz.prog 10 #[.string ⟨#[48, 46, 53]⟩] w fun e w' => e = .returned (.tuple #[.agg #[.int .i64 3, .int .i64 0, .int .i64 0, .int .i64 0, .string (bytes half)], .bool true]) ∧ Below w.heap.size w w' := by
  have hr : readF [48, 46, 53] = (0, 2) := by decide +kernel
  have hf : floatT [48, 46, 53] = (4602678819172646912, 0) := by decide +kernel
  have he : eight 4602678819172646912 = half := by decide +kernel
  have HR : Hid (∀ W, Calls Tryz.prog 16 #[.string ⟨#[48, 46, 53]⟩] W fun e w' => e = .returned (.tuple #[.int .i64 0, .int .i64 2]) ∧ w' = W) := fun W => by
    have h := refRead_any ⟨#[48, 46, 53]⟩ (by decide) W
    rwa [show (⟨#[48, 46, 53]⟩ : ByteArray).data.toList = [48, 46, 53] from rfl, hr] at h
  have HF : Hid (∀ W, Calls Tryz.prog 17 #[.string ⟨#[48, 46, 53]⟩] W fun e w' => e = .returned (.tuple #[.int .u64 4602678819172646912, .int .i64 0]) ∧ W = w') := fun W => by
    have h := refFl_any ⟨#[48, 46, 53]⟩ (by decide) W
    rwa [show (⟨#[48, 46, 53]⟩ : ByteArray).data.toList = [48, 46, 53] from rfl, hf] at h
  have HE : Hid (∀ W, Calls Tryz.prog 18 #[.int .u64 4602678819172646912] W fun e w' => e = .returned (.string (bytes half)) ∧ Below W.heap.size W w') := fun W => by
    have h := refEight_any 4602678819172646912 (by omega) W
    rwa [he] at h
  clear hr hf he
  go_enter Tryz.func10, Tryz.ntmps10
  go_wp2_with (first
    | (go_at_call 16; (with_reducible refine (HR.out _).mono ?_); rintro e w' ⟨rfl, rfl⟩; dsimp only)
    | (go_at_call 17; (with_reducible refine (HF.out _).mono ?_); rintro e w' ⟨rfl, rfl⟩; dsimp only)
    | (go_at_call 18; (with_reducible refine (HE.out _).mono ?_); rintro e w2 ⟨rfl, hb⟩; have HB := Lib.hid hb; have hbl := (hb.block w.heap.size (by simp)).trans (heap_alloc_new w _); have HBL := Lib.hid hbl; obtain ⟨⟨y0, y1, y2, y3, y4⟩, yf⟩ := bxs5 hbl; clear hb hbl; dsimp only))
  have zz := five_stored (y0 := .int .i64 3) (y1 := .int .i64 0) (y2 := .int .i64 0) (y3 := .int .i64 0) (y4 := .string (bytes half)) HBL.out
  have zc := five_stores (((Chg.refl [w.heap.size] w).alloc (.cells #[.int .i64 0, .int .i64 0, .int .i64 0, .int .i64 0, .string ⟨#[]⟩] 36)).thenBelow (HB.out.mono (by simp))) (p := w.heap.size) (.inl (by simp)) (.int .i64 3) (.int .i64 0) (.int .i64 0) (.int .i64 0) (.string (bytes half))
  generalize (((((w2.setCell _ _).setCell _ _).setCell _ _).setCell _ _).setCell _ _) = wz at zz zc ⊢
  obtain ⟨⟨x0, x1, x2, x3, x4⟩, _⟩ := bxs5 zz
  clear y0 y1 y2 y3 y4 yf
  refine bodyPost_ret (v := .tuple #[.agg #[.int .i64 3, .int .i64 0, .int .i64 0, .int .i64 0, .string (bytes half)], .bool true]) (by simp [results, Tryz.results10, go_sem, x0, x1, x2, x3, x4]) rfl ?_
  exact ⟨rfl, zc.below (Nat.le_refl _) (by simp)⟩
end Go.Proofs.YtlailomhgipppaaGreatDoor
