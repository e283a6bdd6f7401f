/- Values in values, in plain words: their forms, their bytes, their texts' lengths. -/
import Derived.Test.YtofmbpmmgpbdbaaDoorRefs
import Derived.Test.YtofmbpmmgpbdbaaDoorHex
import Derived.Lib.ItoaLen
namespace Go.Proofs.YtofmbpmmgpbdbaaDoor
open Wr

namespace VT
mutual
theorem right_down : ∀ (t : VT) (d : Int), t.right (d + 1) = true → t.right d = true
  | node k n s l, d, h => by
    rw [right_node, Bool.and_eq_true, Bool.and_eq_true, decide_eq_true_eq] at h ⊢
    exact ⟨⟨by omega, h.1.2⟩, rights_down l (d + 1) h.2⟩
theorem rights_down : ∀ (l : List VT) (d : Int), rights l (d + 1) = true → rights l d = true
  | [], d, _ => rights_nil d
  | t :: l, d, h => by
    rw [rights_cons, Bool.and_eq_true] at h ⊢
    exact ⟨right_down t d h.1, rights_down l d h.2⟩
end
end VT
def tup (a b : VT) : VT := .node 4 0 ⟨#[]⟩ [a, b]
theorem tup_right (a b : VT) : (tup a b).right 1 = true ↔ a.right 2 = true ∧ b.right 2 = true := by
  unfold tup
  rw [VT.right_node, VT.rights_cons, VT.rights_cons, VT.rights_nil]
  have : fitsB 4 0 ⟨#[]⟩ [a, b].length = true := by show fitsB 4 0 ⟨#[]⟩ 2 = true; decide
  rw [this]
  simp
theorem tup_enc (a b : VT) : (tup a b).enc = [8, 4] ++ a.enc ++ b.enc := by
  unfold tup
  rw [VT.enc, VT.encs, VT.encs, VT.encs, topOf]
  simp [num, zig, var]
theorem tup_err {a b : VT} (h : encErr a ≠ 0 ∨ encErr b ≠ 0) : encErr (tup a b) ≠ 0 := by
  intro h0
  unfold encErr at h0
  split at h0
  · rename_i hr
    split at h0
    · rename_i hl
      rw [tup_enc, List.length_append, List.length_append] at hl
      obtain ⟨ha, hb⟩ := (tup_right a b).1 hr
      have ha1 := VT.right_down a 1 ha
      have hb1 := VT.right_down b 1 hb
      rcases h with h | h
      · exact h (by unfold encErr; rw [if_pos ha1, if_pos (by omega)])
      · exact h (by unfold encErr; rw [if_pos hb1, if_pos (by omega)])
    · omega
  · omega
theorem tup_refs (a b : VT) : (tup a b).refs = a.refs ++ b.refs := by
  unfold tup
  rw [VT.refs_node, VT.refsL_cons, VT.refsL_cons, VT.refsL_nil]
  simp
theorem tup_txt (F : Nat → List UInt8) (a b : VT) : (tup a b).txt F = 40 :: ((a.txt F ++ 44 :: b.txt F) ++ [41]) := by
  unfold tup
  rw [VT.txt_node, topTxt, VT.txts, VT.txts, VT.txts]
  simp [Lib.join, List.intercalate]
theorem quote_len (s : List UInt8) : (quoteB s).length ≤ 4 * s.length + 2 := by
  unfold quoteB
  have : ∀ l : List UInt8, (l.flatMap qb).length ≤ 4 * l.length := by
    intro l
    induction l with
    | nil => simp
    | cons c l ih =>
      rw [List.flatMap_cons, List.length_append, List.length_cons]
      have : (qb c).length ≤ 4 := by unfold qb; split <;> (try split) <;> simp
      omega
  have := this s
  simp only [List.length_cons, List.length_append, List.length_nil]
  omega
theorem hexPad_len : ∀ k x, (hexPad k x).length = k
  | 0, x => rfl
  | k + 1, x => by simp [hexPad, hexPad_len k]
theorem hex_len (x : Nat) (h : x < 18446744073709551616) : (flHex x).length = 16 := by rw [flHex_pad x h, hexPad_len]
theorem join_len (sep : List UInt8) (hs : sep.length = 1) : ∀ l : List (List UInt8), (Lib.join l sep).length ≤ (l.map (fun x => x.length + 1)).sum
  | [] => by simp [Lib.join]
  | [x] => by rw [Lib.join_one]; simp
  | x :: y :: l => by
    have ih := join_len sep hs (y :: l)
    have e : Lib.join (x :: y :: l) sep = x ++ (sep ++ Lib.join (y :: l) sep) := by simp [Lib.join, List.intercalate]
    rw [e, List.length_append, List.length_append, hs, List.map_cons, List.sum_cons]
    omega
theorem num_one (n : Int) : 1 ≤ (num n).length := by
  have := num_ne n
  cases h : num n with
  | nil => exact absurd h this
  | cons _ _ => simp
mutual
theorem txt_len : ∀ t : VT, (t.txt flHex).length + 1 ≤ 30 * t.enc.length
  | .node k n s l => by
    have hs := txts_len l
    have hk := num_one k
    have hn := num_one n
    have hm := num_one (s.data.toList.length : Int)
    have hl := num_one (l.length : Int)
    have h1 := wr_ge n
    have h2 := wr_le n
    have hi := Lib.itoa_length_le (wr n) (by omega) (by omega)
    have hq := quote_len s.data.toList
    have hj := join_len [44] rfl (VT.txts flHex l)
    rw [VT.txt_node, VT.enc, topTxt, topOf, List.length_append, List.length_append]
    by_cases c0 : k = 0
    · rw [if_pos c0, if_pos (.inl c0)]; omega
    · rw [if_neg c0]
      by_cases c1 : k = 1
      · rw [if_pos c1, if_neg (show ¬ (k = 0 ∨ k = 5) by omega), if_pos (.inl c1), hex_len _ (bitsOf_lt _)]; omega
      · rw [if_neg c1]
        by_cases c2 : k = 2
        · rw [if_pos c2, if_neg (show ¬ (k = 0 ∨ k = 5) by omega), if_pos (.inr c2)]
          unfold str
          rw [List.length_append]
          omega
        · rw [if_neg c2]
          by_cases c3 : k = 3
          · rw [if_pos c3, if_neg (show ¬ (k = 0 ∨ k = 5) by omega), if_neg (show ¬ (k = 1 ∨ k = 2) by omega), if_pos c3, List.length_append]
            split <;> simp only [List.length_cons, List.length_append, List.length_nil] <;> omega
          · rw [if_neg c3]
            by_cases c4 : k = 4
            · rw [if_pos c4, if_neg (show ¬ (k = 0 ∨ k = 5) by omega), if_neg (show ¬ (k = 1 ∨ k = 2) by omega), if_neg c3, if_pos c4]
              simp only [List.length_cons, List.length_append, List.length_nil]
              omega
            · rw [if_neg c4]
              by_cases c5 : k = 5
              · rw [if_pos c5, if_pos (.inr c5)]
                simp only [List.length_cons]
                omega
              · rw [if_neg c5]
                simp only [List.length_cons, List.length_nil]
                omega
theorem txts_len : ∀ l : List VT, ((VT.txts flHex l).map (fun x => x.length + 1)).sum ≤ 30 * (VT.encs l).length
  | [] => by rw [VT.txts]; simp
  | t :: l => by
    have := txt_len t
    have := txts_len l
    rw [VT.txts, VT.encs, List.map_cons, List.sum_cons, List.length_append]
    omega
end
theorem txt_small {t : VT} (h : t.enc.length ≤ 16384) : (t.txt flHex).length ≤ 1000000 := by
  have := txt_len t
  omega
end Go.Proofs.YtofmbpmmgpbdbaaDoor
