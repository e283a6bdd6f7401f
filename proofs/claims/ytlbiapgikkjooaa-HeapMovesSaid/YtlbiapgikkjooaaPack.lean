/- Bytes in cells, eight to a cell: plain facts. No program in sight. -/
import Derived.Test.YtlbiapgikkjooaaHeapPlain
import Derived.Test.YtlbiapgikkjooaaBits
namespace Go.Proofs.Ytlbiapgikkjooaa.Hp
set_option linter.unusedSimpArgs false
set_option linter.unusedVariables false
set_option linter.unusedSectionVars false

theorem packOne_nonneg (l : List UInt8) : 0 ≤ packOne l := by
  induction l with
  | nil => simp [packOne]
  | cons b l ih => unfold packOne; omega
theorem packOne_snoc (l : List UInt8) (b : UInt8) : packOne (l ++ [b]) = packOne l + (b.toNat : Int) * 256 ^ l.length := by
  induction l with
  | nil => simp [packOne]
  | cons a l ih =>
    rw [List.cons_append]
    unfold packOne
    rw [ih, List.length_cons, Int.pow_succ, Int.mul_add, ← Int.mul_assoc, Int.mul_comm 256 (b.toNat : Int), Int.mul_assoc, Int.mul_comm 256 (256 ^ l.length), Int.add_assoc]
theorem packOne_lt (l : List UInt8) : packOne l < 256 ^ l.length := by
  induction l with
  | nil => simp [packOne]
  | cons b l ih =>
    have hb : b.toNat < 256 := UInt8.toNat_lt b
    unfold packOne
    rw [List.length_cons, Int.pow_succ]
    omega

/-- Chunk i of some bytes. -/
def chunk (l : List UInt8) (i : Nat) : List UInt8 := (l.drop (8 * i)).take 8
theorem pack_get (n : Nat) : ∀ (l : List UInt8) (i : Nat), l.length ≤ n → 8 * i < l.length → (pack n l)[i]? = some (signed64 (packOne (chunk l i))) := by
  induction n with
  | zero => intro l i h1 h2; omega
  | succ n ih =>
    intro l i h1 h2
    have hne : l.isEmpty = false := by cases l; simp at h2; rfl
    unfold pack
    rw [hne]
    simp only [Bool.false_eq_true, if_false]
    cases i with
    | zero => unfold chunk; simp
    | succ i =>
      rw [List.getElem?_cons_succ, ih (l.drop 8) i (by rw [List.length_drop]; omega) (by rw [List.length_drop]; omega)]
      unfold chunk
      rw [List.drop_drop, show 8 + 8 * i = 8 * (i + 1) by omega]

/-- Of a chunk, the first k bytes, and one more. -/
theorem chunk_take (l : List UInt8) (i k : Nat) (b : UInt8) (hk : k < 8) (hb : l[8 * i + k]? = some b) : ((l.drop (8 * i)).take (k + 1)) = (l.drop (8 * i)).take k ++ [b] := by
  rw [List.take_add_one, List.getElem?_drop, hb]; rfl
theorem chunk_len (l : List UInt8) (i k : Nat) (h : 8 * i + k ≤ l.length) : ((l.drop (8 * i)).take k).length = k := by
  rw [List.length_take, List.length_drop]; omega
theorem chunk_end (l : List UInt8) (i k : Nat) (hk : k = 8 ∨ l.length = 8 * i + k) (hk8 : k ≤ 8) : (l.drop (8 * i)).take k = chunk l i := by
  unfold chunk
  rcases hk with rfl | e
  · rfl
  · rw [List.take_of_length_le (by rw [List.length_drop]; omega), List.take_of_length_le (by rw [List.length_drop]; omega)]

/-- Byte j of a chunk: what a shift of its cell shows. -/
theorem packOne_get (l : List UInt8) (j : Nat) : packOne l / 256 ^ j % 256 = ((l[j]?).map fun b => (b.toNat : Int)).getD 0 := by
  induction l generalizing j with
  | nil => simp [packOne]
  | cons b l ih =>
    have hb : b.toNat < 256 := UInt8.toNat_lt b
    cases j with
    | zero => unfold packOne; simp; omega
    | succ j =>
      rw [List.getElem?_cons_succ, ← ih j, Int.pow_succ, Int.mul_comm (256 ^ j) 256, ← Int.ediv_ediv_of_nonneg (by omega)]
      show ((b.toNat : Int) + 256 * packOne l) / 256 / 256 ^ j % 256 = _
      rw [show ((b.toNat : Int) + 256 * packOne l) / 256 = packOne l by omega]
theorem signed_get (l : List UInt8) (hl : l.length ≤ 8) (j : Nat) (hj : j < 8) : signed64 (packOne l) / 256 ^ j % 256 = ((l[j]?).map fun b => (b.toNat : Int)).getD 0 := by
  rw [← packOne_get l j]
  have h0 := packOne_nonneg l
  have h1 := packOne_lt l
  have h2 : (256 : Int) ^ l.length ≤ 256 ^ 8 := by
    have : (256 : Nat) ^ l.length ≤ 256 ^ 8 := Nat.pow_le_pow_right (by omega) hl
    calc (256 : Int) ^ l.length = ((256 ^ l.length : Nat) : Int) := by simp
      _ ≤ ((256 ^ 8 : Nat) : Int) := by exact Int.ofNat_le.2 this
      _ = 256 ^ 8 := by simp
  have h3 : packOne l < 18446744073709551616 := by
    have : (256 : Int) ^ 8 = 18446744073709551616 := by decide
    omega
  clear h1 h2
  generalize packOne l = x at h0 h3 ⊢
  unfold signed64
  have : j = 0 ∨ j = 1 ∨ j = 2 ∨ j = 3 ∨ j = 4 ∨ j = 5 ∨ j = 6 ∨ j = 7 := by omega
  rcases this with rfl | rfl | rfl | rfl | rfl | rfl | rfl | rfl <;> simp only [Int.reducePow] <;> omega
end Go.Proofs.Ytlbiapgikkjooaa.Hp
