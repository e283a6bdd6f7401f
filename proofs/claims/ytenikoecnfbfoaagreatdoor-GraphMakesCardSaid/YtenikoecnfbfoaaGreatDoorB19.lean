/- Texts of the proof, in build order: Quote. -/
import Derived.Test.YtenikoecnfbfoaaGreatDoorB13
import Derived.Test.YtenikoecnfbfoaaGreatDoorB17
import Derived.Deep.RegionHeld3
/- The program's quote. -/
namespace Go.Proofs.YtenikoecnfbfoaaGreatDoor
open Go.RowKit Go.Maps Wr
set_option linter.unusedVariables false

def hexB (n : Nat) : UInt8 := if n < 10 then UInt8.ofNat (48 + n) else UInt8.ofNat (87 + n)
def qb (c : UInt8) : List UInt8 := if c = 34 ∨ c = 92 then [92, c] else if c < 32 ∨ 126 < c then [92, 120, hexB (c.toNat / 16), hexB (c.toNat % 16)] else [c]
theorem qb_34 (c : UInt8) (h : (c.toNat : Int) = 34) : qb c = [92, 34] := by
  have : c = 34 := by apply UInt8.toNat_inj.1; show c.toNat = 34; omega
  subst this; rfl
theorem qb_92 (c : UInt8) (h : (c.toNat : Int) = 92) : qb c = [92, 92] := by
  have : c = 92 := by apply UInt8.toNat_inj.1; show c.toNat = 92; omega
  subst this; rfl
theorem not_q {c : UInt8} (h1 : ¬ (c.toNat : Int) = 34) (h2 : ¬ (c.toNat : Int) = 92) : ¬ (c = 34 ∨ c = 92) := by
  rintro (rfl | rfl)
  · exact h1 rfl
  · exact h2 rfl
theorem odd_iff (c : UInt8) : (c < 32 ∨ 126 < c) ↔ ((c.toNat : Int) < 32 ∨ 126 < (c.toNat : Int)) := by
  rw [UInt8.lt_iff_toNat_lt, UInt8.lt_iff_toNat_lt, show (32 : UInt8).toNat = 32 from rfl, show (126 : UInt8).toNat = 126 from rfl]
  omega
theorem qb_plain (c : UInt8) (h1 : ¬ (c.toNat : Int) = 34) (h2 : ¬ (c.toNat : Int) = 92) (h3 : ¬ (c.toNat : Int) < 32) (h4 : ¬ 126 < (c.toNat : Int)) : qb c = [c] := by
  unfold qb
  rw [if_neg (not_q h1 h2), if_neg]
  rw [odd_iff]; omega
theorem qb_hex (c : UInt8) (h1 : ¬ (c.toNat : Int) = 34) (h2 : ¬ (c.toNat : Int) = 92) (h3 : (c.toNat : Int) < 32 ∨ 126 < (c.toNat : Int)) : qb c = [92, 120, hexB (c.toNat / 16), hexB (c.toNat % 16)] := by
  unfold qb
  rw [if_neg (not_q h1 h2), if_pos]
  rw [odd_iff]; exact h3
theorem qb_92' (c : UInt8) (h : ((c.toNat : Int) == 34) = true ∨ ((c.toNat : Int) == 92) = true) : qb c = [92, c] := by
  rcases h with h | h
  · have h : (c.toNat : Int) = 34 := by simpa using h
    have : c = 34 := by apply UInt8.toNat_inj.1; show c.toNat = 34; omega
    subst this; rfl
  · have h : (c.toNat : Int) = 92 := by simpa using h
    have : c = 92 := by apply UInt8.toNat_inj.1; show c.toNat = 92; omega
    subst this; rfl
theorem qb_plain' (c : UInt8) (h : ((c.toNat : Int) == 34) = false ∧ ((c.toNat : Int) == 92) = false) (h3 : ¬ (c.toNat : Int) < 32) (h4 : ¬ 126 < (c.toNat : Int)) : qb c = [c] :=
  qb_plain c (by simpa using h.1) (by simpa using h.2) h3 h4
theorem qb_hex' (c : UInt8) (h : ((c.toNat : Int) == 34) = false ∧ ((c.toNat : Int) == 92) = false) (h3 : (c.toNat : Int) < 32 ∨ 126 < (c.toNat : Int)) : qb c = [92, 120, hexB (c.toNat / 16), hexB (c.toNat % 16)] :=
  qb_hex c (by simpa using h.1) (by simpa using h.2) h3
theorem and_15 (c : UInt8) : bits .and .u8 (c.toNat : Int) 15 = (c.toNat : Int) % 16 := by
  show IntKind.u8.wrap (((BitVec.ofInt 8 (c.toNat : Int) &&& BitVec.ofInt 8 15).toNat : Nat) : Int) = _
  rw [BitVec.ofInt_natCast, BitVec.toNat_and, BitVec.toNat_ofNat, show (BitVec.ofInt 8 15).toNat = 15 by decide, IntKind.wrap_u8]
  have key : ∀ x : Nat, x < 256 → (x &&& 15) = x % 16 := by decide +kernel
  have := c.toNat_lt
  rw [key _ (by omega)]
  omega
theorem hex_at (j : Int) (k : Nat) (h : j.toNat = k) (hk : k < 16) (hb : j.toNat < (ByteArray.mk #[48, 49, 50, 51, 52, 53, 54, 55, 56, 57, 97, 98, 99, 100, 101, 102]).size) :
    (ByteArray.mk #[48, 49, 50, 51, 52, 53, 54, 55, 56, 57, 97, 98, 99, 100, 101, 102])[j.toNat]'hb = hexB k := by
  subst h
  generalize j.toNat = k at *
  have key : ∀ k : Fin 16, (ByteArray.mk #[48, 49, 50, 51, 52, 53, 54, 55, 56, 57, 97, 98, 99, 100, 101, 102])[k.val]'(k.isLt) = hexB k.val := by decide +kernel
  exact key ⟨k, hk⟩
def quoteB (s : List UInt8) : List UInt8 := 34 :: s.flatMap qb ++ [34]
theorem qb_len (c : UInt8) : (qb c).length ≤ 4 := by
  unfold qb
  split
  · simp
  · split <;> simp
theorem flat_len : ∀ (s : List UInt8), (s.flatMap qb).length ≤ 4 * s.length
  | [] => by simp
  | c :: s => by have := qb_len c; have := flat_len s; rw [List.flatMap_cons, List.length_append, List.length_cons]; omega

/-- Bytes that were just made. -/
theorem new_row (w : World) (l : List UInt8) (cs : Array Value) (h : cs.toList = bvals l) (hl : l.length ≤ 1000000) : ByteRow (w.alloc (.cells cs 5)) w.heap.size (.slice (some ⟨w.heap.size, 0, none⟩) l.length l.length) l := by
  have hb := bvals_length l
  refine ByteRow.of (n := l.length) ⟨by rw [hb, Nat.mul_one], .inr ⟨w.heap.size, l.length, cs, rfl, Nat.le_refl _, heap_alloc_new w _, Nat.le_refl _, by unfold maxLen; omega, ?_, ?_⟩⟩ rfl
  · rw [← Array.length_toList, h, hb, Nat.mul_one]
  · rw [h, Nat.mul_one, ← hb, List.take_length]

def QLoop (w0 : World) (s : ByteArray) (k : Nat) (s3 s9 : Value) (w : World) : Prop :=
  ∃ (i : Nat), s9 = .int .i64 i ∧ i + k = s.size ∧ ByteRow w w0.heap.size s3 (34 :: (s.data.toList.take i).flatMap qb) ∧ Below w0.heap.size w0 w

theorem q_next {s : ByteArray} {i : Nat} (h : i < s.size) : 34 :: (s.data.toList.take (i + 1)).flatMap qb = (34 :: (s.data.toList.take i).flatMap qb) ++ qb s[i] := by
  have hi : i < s.data.toList.length := by simpa using h
  rw [List.take_succ_eq_append_getElem hi, List.flatMap_append, List.cons_append]
  congr 2
  simp [List.flatMap_cons]
  rfl

set_option maxRecDepth 100000 in
set_option maxHeartbeats 1600000 in
theorem quote_any (s : ByteArray) (w : World) (hs : s.size ≤ 1000000) : Calls Tryz.prog 59 #[.string s] w fun e w' => e = .returned (.string (bytes (quoteB s.data.toList))) ∧ Below w.heap.size w w' := by
  have HR0 : Hid (ByteRow (w.alloc (.cells #[.int .u8 34] 5)) w.heap.size (.slice (some ⟨w.heap.size, 0, none⟩) 1 1) [34]) := new_row w [34] #[.int .u8 34] rfl (by simp)
  go_enter Tryz.func59, Tryz.ntmps59
  go_wp2
  have HL : Hid (QLoop w s s.size (.slice (some ⟨w.heap.size, 0, none⟩) 1 1) (.int .i64 0) (w.alloc (.cells #[.int .u8 34] 5))) := ⟨0, rfl, by omega, HR0.out, (Below.refl _ _).alloc (Nat.le_refl _) _⟩
  go_loopg [3, 4, 5, 9] s.size (fun k s3 _ _ s9 wr => QLoop w s k s3 s9 wr)
  case atStart => exact HL.out
  case round =>
    clear HL HR0
    obtain ⟨i, rfl, hik, hrow, hb⟩ := hrel
    have HB := Lib.hid hb
    obtain ⟨pre, hpre⟩ : ∃ pre, pre = 34 :: (s.data.toList.take i).flatMap qb := ⟨_, rfl⟩
    have hpl : Hid (pre.length ≤ 4000001) := by
      have := flat_len (s.data.toList.take i)
      have e : (s.data.toList.take i).length ≤ 1000000 := by simp; omega
      show _ ≤ _
      rw [hpre, List.length_cons]; omega
    rw [← hpre] at hrow
    have HP := Lib.hid hpre
    have HR := Lib.hid hrow
    obtain ⟨ao3, cap3, rfl, q1, q2⟩ := hrow.form
    unfold maxLen at q2
    clear hrow hb hpre
    by_cases hlt : i < s.size
    · have hlt' : (i : Int) < (s.size : Int) := by omega
      have hi0 : (0 : Int) ≤ (i : Int) := by omega
      have HN := Lib.hid (q_next hlt)
      have hc2 : (s[i].toNat : Int) < 256 := by have := UInt8.toNat_lt s[i]; omega
      go_wp2_with (first
        | (at_builtin; (refine wpList_appb (w := wr.alloc (.cells #[.int .u8 92, .int .u8 34] 5)) rfl _ _ rfl (v := .slice ao3 pre.length cap3) (vx := .slice (some ⟨wr.heap.size, 0, none⟩) 2 2) rfl (HR.out.below ((Below.refl _ _).alloc (Nat.le_refl _) _)) rfl (new_row wr [92, 34] #[.int .u8 92, .int .u8 34] rfl (by simp)) (by simp) (by have := HB.out.size; simp; omega) (by have := hpl.out; simp only [List.length_cons, List.length_nil]; omega) ?_; intro v6 w6 hr6 ho6; have R6 := Lib.hid hr6; have O6 : Hid (OwnStep wr (.slice ao3 pre.length cap3) w6 v6) := (OwnStep.made (.slice ao3 pre.length cap3) ((Below.refl _ _).alloc (Nat.le_refl _) _)).trans ho6; clear hr6 ho6))
        | (at_builtin; (refine wpList_appb (w := wr.alloc (.cells #[.int .u8 92, .int .u8 (s[i].toNat : Int)] 5)) rfl _ _ rfl (v := .slice ao3 pre.length cap3) (vx := .slice (some ⟨wr.heap.size, 0, none⟩) 2 2) rfl (HR.out.below ((Below.refl _ _).alloc (Nat.le_refl _) _)) rfl (new_row wr [92, s[i]] #[.int .u8 92, .int .u8 (s[i].toNat : Int)] rfl (by simp)) (by simp) (by have := HB.out.size; simp; omega) (by have := hpl.out; simp only [List.length_cons, List.length_nil]; omega) ?_; intro v6 w6 hr6 ho6; have R6 := Lib.hid hr6; have O6 : Hid (OwnStep wr (.slice ao3 pre.length cap3) w6 v6) := (OwnStep.made (.slice ao3 pre.length cap3) ((Below.refl _ _).alloc (Nat.le_refl _) _)).trans ho6; clear hr6 ho6))
        | (at_builtin; (refine wpList_appb (w := wr.alloc (.cells #[.int .u8 (s[i].toNat : Int)] 5)) rfl _ _ rfl (v := .slice ao3 pre.length cap3) (vx := .slice (some ⟨wr.heap.size, 0, none⟩) 1 1) rfl (HR.out.below ((Below.refl _ _).alloc (Nat.le_refl _) _)) rfl (new_row wr [s[i]] #[.int .u8 (s[i].toNat : Int)] rfl (by simp)) (by simp) (by have := HB.out.size; simp; omega) (by have := hpl.out; simp only [List.length_cons, List.length_nil]; omega) ?_; intro v6 w6 hr6 ho6; have R6 := Lib.hid hr6; have O6 : Hid (OwnStep wr (.slice ao3 pre.length cap3) w6 v6) := (OwnStep.made (.slice ao3 pre.length cap3) ((Below.refl _ _).alloc (Nat.le_refl _) _)).trans ho6; clear hr6 ho6)))
      all_goals first
        | (go_roundg (gk - 1)
           case measure => omega
           case rel => exact ⟨i + 1, by go_num, by omega, by rw [HN.out, ← HP.out]; first | (rw [qb_34 s[i] (by omega)]; exact R6.out) | (rw [qb_92' s[i] (by assumption)]; exact R6.out) | (rw [qb_plain' s[i] (by assumption) (by omega) (by omega)]; exact R6.out), HB.out.trans (O6.out.below HB.out.size (fun k hk => HR.out.2 k hk))⟩)
        | skip
      all_goals
        have hA := and_15 s[i]
        have hA1 : (0 : Int) ≤ (s[i].toNat : Int) / 16 := by omega
        have hA2 : (s[i].toNat : Int) / 16 < 16 := by omega
        have hA3 : (0 : Int) ≤ (s[i].toNat : Int) % 16 := by omega
        have hA4 : (s[i].toNat : Int) % 16 < 16 := by omega
        go_region_law ((refine step_appb (w := (wr.alloc (.cells #[.int .u8 92, .int .u8 120, .int .u8 ((_ : UInt8).toNat : Int), .int .u8 ((_ : UInt8).toNat : Int)] 5)).drew) (by rfl) _ _ rfl (v := .slice ao3 pre.length cap3) (vx := .slice (some ⟨wr.heap.size, 0, none⟩) 4 4) rfl (HR.out.below (((Below.refl _ _).alloc (Nat.le_refl _) _).drew)) rfl ((new_row wr [92, 120, _, _] _ rfl (by simp)).below (Below.refl _ _).drew) (by simp) (by have := HB.out.size; simp; omega) (by have := hpl.out; simp only [List.length_cons, List.length_nil]; omega) ?_; intro v6 w6 hr6 ho6; have R6 := Lib.hid hr6; have O6 : Hid (OwnStep wr (.slice ao3 pre.length cap3) w6 v6) := (OwnStep.made (.slice ao3 pre.length cap3) (((Below.refl _ _).alloc (Nat.le_refl _) _).drew)).trans ho6; clear hr6 ho6))
      all_goals go_wp2
      all_goals
        go_roundg (gk - 1)
        case measure => omega
        case rel =>
          refine ⟨i + 1, by go_num, by omega, ?_, HB.out.trans (O6.out.below HB.out.size (fun k hk => HR.out.2 k hk))⟩
          have h6 := R6.out
          rw [hex_at ((s[i].toNat : Int) / 16) (s[i].toNat / 16) (by omega) (by have := s[i].toNat_lt; omega), hex_at ((s[i].toNat : Int) % 16) (s[i].toNat % 16) (by omega) (by omega)] at h6
          rw [HN.out, ← HP.out, qb_hex' s[i] (by assumption) (by omega)]
          exact h6
    · obtain rfl : i = s.size := by omega
      have HZ : Hid (quoteB s.data.toList = (34 :: (s.data.toList.take s.size).flatMap qb) ++ [34]) := by show _ = _; rw [List.take_of_length_le (by simp)]; rfl
      go_wp2_with (at_builtin; (refine wpList_appb (w := wr.alloc (.cells #[.int .u8 34] 5)) rfl _ _ rfl (v := .slice ao3 pre.length cap3) (vx := .slice (some ⟨wr.heap.size, 0, none⟩) 1 1) rfl (HR.out.below ((Below.refl _ _).alloc (Nat.le_refl _) _)) rfl (new_row wr [34] #[.int .u8 34] rfl (by simp)) (by simp) (by have := HB.out.size; simp; omega) (by have := hpl.out; simp only [List.length_cons, List.length_nil]; omega) ?_; intro v6 w6 hr6 ho6; have R6 := Lib.hid hr6; have O6 : Hid (OwnStep wr (.slice ao3 pre.length cap3) w6 v6) := (OwnStep.made (.slice ao3 pre.length cap3) ((Below.refl _ _).alloc (Nat.le_refl _) _)).trans ho6; have hcv := run_row_str hr6 (by simp); obtain ⟨ao6, cap6, rfl, _, _⟩ := hr6.form; simp only [List.length_append, List.length_cons, List.length_nil, Nat.zero_add] at hcv; clear hr6 ho6))
      go_ret
      refine ⟨?_, HB.out.trans (O6.out.below HB.out.size (fun k hk => HR.out.2 k hk))⟩
      rw [HZ.out, ← HP.out]
      rfl
end Go.Proofs.YtenikoecnfbfoaaGreatDoor
