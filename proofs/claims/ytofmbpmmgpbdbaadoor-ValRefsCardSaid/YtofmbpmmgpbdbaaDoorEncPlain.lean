/- A value's bytes, in plain words. -/
import Derived.Test.YtofmbpmmgpbdbaaDoorRight
import Derived.Test.YtofmbpmmgpbdbaaDoorWire3
namespace Go.Proofs.YtofmbpmmgpbdbaaDoor
open Wr

/-- A node's bytes behind its kind. -/
def topOf (k n : Int) (s : ByteArray) (m : Nat) : List UInt8 :=
  if k = 0 ∨ k = 5 then num n else if k = 1 ∨ k = 2 then str s.data.toList else if k = 3 then num n ++ num m else if k = 4 then num m else []
namespace VT
mutual
def enc : VT → List UInt8
  | node k n s l => Wr.num k ++ topOf k n s l.length ++ encs l
def encs : List VT → List UInt8
  | [] => []
  | t :: l => enc t ++ encs l
end
mutual
/-- The bytes behind others; no more than are wanted. -/
def put (L : Nat) : VT → List UInt8 → List UInt8
  | node k n s l, b => if L < b.length then b else puts L l (b ++ Wr.num k ++ topOf k n s l.length)
def puts (L : Nat) : List VT → List UInt8 → List UInt8
  | [], b => b
  | t :: l, b => puts L l (put L t b)
end
theorem put_node (L : Nat) (k n : Int) (s : ByteArray) (l : List VT) (b : List UInt8) : put L (node k n s l) b = if L < b.length then b else puts L l (b ++ Wr.num k ++ topOf k n s l.length) := by rw [put]
theorem puts_nil (L : Nat) (b : List UInt8) : puts L [] b = b := by rw [puts]
theorem puts_cons (L : Nat) (t : VT) (l : List VT) (b : List UInt8) : puts L (t :: l) b = puts L l (put L t b) := by rw [puts]
mutual
theorem put_or (L : Nat) : ∀ (t : VT) (b : List UInt8), put L t b = b ++ enc t ∨ (L < (put L t b).length ∧ L < (b ++ enc t).length)
  | node k n s l, b => by
    rw [put, enc]
    split
    · rename_i h
      right
      exact ⟨h, by rw [List.length_append]; omega⟩
    · have := puts_or L l (b ++ Wr.num k ++ topOf k n s l.length)
      have e : b ++ Wr.num k ++ topOf k n s l.length ++ encs l = b ++ (Wr.num k ++ topOf k n s l.length ++ encs l) := by simp [List.append_assoc]
      rwa [e] at this
theorem puts_or (L : Nat) : ∀ (l : List VT) (b : List UInt8), puts L l b = b ++ encs l ∨ (L < (puts L l b).length ∧ L < (b ++ encs l).length)
  | [], b => by left; rw [puts, encs, List.append_nil]
  | t :: l, b => by
    rw [puts, encs]
    rcases put_or L t b with h | ⟨h1, h2⟩
    · have := puts_or L l (put L t b)
      rw [h] at this ⊢
      rwa [List.append_assoc] at this
    · have h3 : ∀ (l : List VT) (b : List UInt8), L < b.length → L < (puts L l b).length := fun l => by
        induction l with
        | nil => intro b h; rw [puts]; exact h
        | cons t l ih =>
          intro b h
          rw [puts]
          apply ih
          cases t with
          | node k n s l => rw [put, if_pos h]; exact h
      right
      refine ⟨h3 l _ h1, ?_⟩
      rw [← List.append_assoc, List.length_append]
      omega
end
/-- What stands when all is put. -/
theorem put_fits {L : Nat} {t : VT} (h : (enc t).length ≤ L) : put L t [] = enc t := by
  rcases put_or L t [] with e | ⟨_, h2⟩
  · rw [e]; rfl
  · rw [List.nil_append] at h2; omega
theorem put_over {L : Nat} {t : VT} (h : L < (enc t).length) : L < (put L t []).length := by
  rcases put_or L t [] with e | ⟨h1, _⟩
  · rw [e, List.nil_append]; exact h
  · exact h1
/-- What a value in form has. -/
theorem right_parts {k n : Int} {s : ByteArray} {l : List VT} {d : Int} (h : (node k n s l).right d = true) : fitsB k n s l.length = true ∧ rights l (d + 1) = true ∧ d ≤ 200 := by
  rw [right_node] at h
  simp only [Bool.and_eq_true, decide_eq_true_eq] at h
  exact ⟨h.1.2, h.2, h.1.1⟩
theorem rights_get : ∀ {l : List VT} {i : Nat} {t : VT} {d : Int}, rights l d = true → l[i]? = some t → t.right d = true
  | [], _, _, _, _, h => by cases h
  | t :: l, 0, u, d, h, hi => by rw [List.getElem?_cons_zero] at hi; cases hi; rw [rights_cons, Bool.and_eq_true] at h; exact h.1
  | t :: l, i + 1, u, d, h, hi => by rw [List.getElem?_cons_succ] at hi; rw [rights_cons, Bool.and_eq_true] at h; exact rights_get h.2 hi
end VT
/-- What fits says of a node's parts. -/
theorem fits_parts {k n : Int} {s : ByteArray} {m : Nat} (h : fitsB k n s m = true) : 0 ≤ k ∧ k ≤ 6 ∧ m ≤ 8 ∧ s.size ≤ 4096 ∧ -4611686018427387904 ≤ n ∧ n ≤ 4611686018427387903 := by
  have hE : emptyB s = true → s.size = 0 := fun h => by simpa [emptyB] using h
  have h1 := wr_ge n
  have h2 := wr_le n
  unfold fitsB at h
  split at h
  · simp only [Bool.and_eq_true, decide_eq_true_eq] at h
    have := hE h.1.2
    omega
  · split at h
    · simp only [Bool.and_eq_true, decide_eq_true_eq] at h; omega
    · split at h
      · simp only [Bool.and_eq_true, decide_eq_true_eq] at h; omega
      · split at h
        · simp only [Bool.and_eq_true, decide_eq_true_eq] at h
          have := hE h.1.2; omega
        · split at h
          · simp only [Bool.and_eq_true, decide_eq_true_eq] at h
            have := hE h.1.1.2; omega
          · split at h
            · simp only [Bool.and_eq_true, decide_eq_true_eq] at h
              have := hE h.1.2; omega
            · split at h
              · simp only [Bool.and_eq_true, decide_eq_true_eq] at h
                have := hE h.1.2; omega
              · cases h
theorem str_len {s : List UInt8} (h : s.length ≤ 1000000000) : (str s).length ≤ s.length + 10 := by
  unfold str; rw [List.length_append]; have := num_len (n := (s.length : Int)) (by omega) (by omega); omega
theorem topOf_len {k n : Int} {s : ByteArray} {m : Nat} (h : fitsB k n s m = true) : (topOf k n s m).length ≤ 4106 := by
  obtain ⟨h1, h2, h3, h4, h5, h6⟩ := fits_parts h
  have a := num_len (n := n) (by omega) (by omega)
  have b := num_len (n := (m : Int)) (by omega) (by omega)
  have c := str_len (s := s.data.toList) (by simp; omega)
  have e : s.data.toList.length = s.size := by simp
  unfold topOf
  split
  · omega
  · split
    · omega
    · split
      · rw [List.length_append]; omega
      · split
        · omega
        · simp
end Go.Proofs.YtofmbpmmgpbdbaaDoor
