/- Digits, read as numbers (no program). -/
import Derived.Lib.ParseIntB
import Derived.Lib.ParseIntBCases
import Derived.Lib.ItoaLen
namespace Go.Proofs.YtlailomhgipppaaGreatDoor
set_option linter.unusedSimpArgs false
set_option linter.unusedVariables false

def isDig (c : UInt8) : Bool := decide (48 ≤ c.toNat) && decide (c.toNat ≤ 57)
theorem isDig_iff {c : UInt8} : isDig c = true ↔ 48 ≤ c.toNat ∧ c.toNat ≤ 57 := by simp [isDig]
def dval (acc : Nat) (l : List UInt8) : Nat := l.foldl (fun a c => a * 10 + (c.toNat - 48)) acc
theorem dval_nil (acc : Nat) : dval acc [] = acc := rfl
theorem dval_cons (acc : Nat) (c : UInt8) (r : List UInt8) : dval acc (c :: r) = dval (acc * 10 + (c.toNat - 48)) r := by
  unfold dval
  rw [List.foldl_cons]
theorem head45 (r : List UInt8) : ((45 : UInt8) :: r).head? = some 45 := rfl
theorem head_ne {c : UInt8} (h : c ≠ 45) (r : List UInt8) : ¬ (c :: r).head? = some 45 := by simpa using h
theorem dval_le (l : List UInt8) : ∀ acc, acc ≤ dval acc l := by
  induction l with
  | nil => intro acc; exact Nat.le_refl _
  | cons c r ih => intro acc; rw [dval_cons]; exact Nat.le_trans (by omega) (ih _)
theorem dval_app (l m : List UInt8) : ∀ acc, dval acc (l ++ m) = dval (dval acc l) m := by
  induction l with
  | nil => intro acc; rfl
  | cons c r ih => intro acc; rw [List.cons_append, dval_cons, dval_cons, ih]
theorem parseUintM_dig {M : Nat} (hM : M ≤ 18446744073709551615) (l : List UInt8) : ∀ acc, l.all isDig = true → acc ≤ M → Lib.parseUintM M acc l = if dval acc l ≤ M then .ok (dval acc l) else .range := by
  induction l with
  | nil => intro acc _ h; rw [Lib.parseUintM, dval_nil, if_pos h]
  | cons c r ih =>
    intro acc hd h
    rw [List.all_cons, Bool.and_eq_true, isDig_iff] at hd
    rw [Lib.parseUintM, if_pos hd.1, dval_cons]
    have hle := dval_le r (acc * 10 + (c.toNat - 48))
    by_cases h1 : 1844674407370955162 ≤ acc
    · rw [if_pos h1, if_neg (by omega)]
    · rw [if_neg h1]
      by_cases h2 : M < acc * 10 + (c.toNat - 48)
      · rw [if_pos h2, if_neg (by omega)]
      · rw [if_neg h2, ih _ hd.2 (by omega)]
theorem dval_digits (u : Nat) : ∀ acc, dval acc (Lib.decDigits u) = acc * 10 ^ (Lib.decDigits u).length + u := by
  induction u using Nat.strongRecOn with
  | _ u ih =>
    intro acc
    by_cases h : u < 10
    · rw [Lib.decDigits_one h]
      rw [dval_cons, dval_nil, List.length_singleton, Nat.pow_one]
      rw [UInt8.toNat_ofNat']
      omega
    · rw [Lib.decDigits, dif_neg h, dval_app, ih (u / 10) (by omega), List.length_append, List.length_singleton, Nat.pow_succ]
      rw [dval_cons, dval_nil]
      rw [UInt8.toNat_ofNat']
      generalize 10 ^ (Lib.decDigits (u / 10)).length = p
      rw [Nat.add_mul, Nat.mul_assoc]
      omega
theorem digits_all (u : Nat) : (Lib.decDigits u).all isDig = true := by
  induction u using Nat.strongRecOn with
  | _ u ih =>
    have hd : ∀ k, k < 10 → isDig (UInt8.ofNat (48 + k)) = true := fun k hk => by
      rw [isDig_iff, UInt8.toNat_ofNat']
      omega
    by_cases h : u < 10
    · rw [Lib.decDigits_one h, List.all_cons, List.all_nil, hd u h]; rfl
    · rw [Lib.decDigits, dif_neg h, List.all_append, ih (u / 10) (by omega), List.all_cons, List.all_nil, hd _ (Nat.mod_lt _ (by omega))]; rfl
theorem digits_ne (u : Nat) : Lib.decDigits u ≠ [] := by
  by_cases h : u < 10
  · rw [Lib.decDigits_one h]; simp
  · rw [Lib.decDigits, dif_neg h]; simp
theorem digits_head (u : Nat) : (Lib.decDigits u).head? ≠ some 45 := by
  intro h
  have := digits_all u
  cases hl : Lib.decDigits u with
  | nil => exact digits_ne u hl
  | cons c r =>
    rw [hl] at h this
    simp only [List.head?_cons, Option.some.injEq] at h
    subst h
    rw [List.all_cons, Bool.and_eq_true, isDig_iff] at this
    have h2 := this.1.1
    exact absurd h2 (by decide)

/-- What digits say: the number, and an error's number. -/
def unsignedT (l : List UInt8) : List UInt8 := if l.head? = some 45 then l.tail else l
def readF (l : List UInt8) : Int × Int :=
  if unsignedT l = [] ∨ (unsignedT l).all isDig = false then (0, 2)
  else if l.head? = some 45 then if 4611686018427387904 < dval 0 (unsignedT l) then (0, 4) else (-(dval 0 (unsignedT l) : Int), 0)
  else if 4611686018427387904 ≤ dval 0 (unsignedT l) then (0, 4) else ((dval 0 (unsignedT l) : Int), 0)
theorem readF_itoa {n : Int} (h1 : -4611686018427387904 ≤ n) (h2 : n ≤ 4611686018427387903) : readF (Lib.itoa n) = (n, 0) := by
  by_cases hn : n < 0
  · obtain ⟨u, rfl⟩ : ∃ u : Nat, n = -(u : Int) := ⟨n.natAbs, by omega⟩
    have e : Lib.itoa (-(u : Int)) = 45 :: Lib.decDigits u := by
      unfold Lib.itoa
      rw [if_pos hn]
      congr 2
      omega
    rw [e]
    have hu : unsignedT (45 :: Lib.decDigits u) = Lib.decDigits u := by unfold unsignedT; rw [if_pos (head45 _)]; rfl
    unfold readF
    rw [hu, if_neg (by simp [digits_ne, digits_all]), if_pos (head45 _), dval_digits, Nat.zero_mul, Nat.zero_add, if_neg (by omega)]
  · obtain ⟨u, rfl⟩ : ∃ u : Nat, n = (u : Int) := ⟨n.natAbs, by omega⟩
    rw [Lib.itoa_nonneg]
    have hu : unsignedT (Lib.decDigits u) = Lib.decDigits u := by unfold unsignedT; rw [if_neg (digits_head u)]
    unfold readF
    rw [hu, if_neg (by simp [digits_ne, digits_all]), if_neg (digits_head u), dval_digits, Nat.zero_mul, Nat.zero_add, if_neg (by omega)]
/-- What the library's function makes of it. -/
theorem parse_readF {l : List UInt8} (h1 : unsignedT l ≠ []) (h2 : (unsignedT l).all isDig = true) :
    Lib.parseIntB 63 l = (if (readF l).2 = 0 then .ok (readF l).1 else .range) := by
  have hP : Lib.parseUintB 63 (unsignedT l) = if dval 0 (unsignedT l) ≤ 9223372036854775807 then .ok (dval 0 (unsignedT l)) else .range := by
    unfold Lib.parseUintB
    rw [if_neg h1]
    have : (2 : Nat) ^ 63 - 1 = 9223372036854775807 := by decide
    rw [this]
    exact parseUintM_dig (by omega) _ 0 h2 (by omega)
  have e62 : (2 : Nat) ^ (63 - 1) = 4611686018427387904 := by decide
  cases l with
  | nil => exact absurd rfl h1
  | cons c r =>
    by_cases h45 : c = 45
    · subst h45
      have hu : unsignedT (45 :: r) = r := rfl
      rw [hu] at h1 h2 hP
      rw [Lib.parseIntB_minus, hP]
      unfold readF
      have hc : ¬ (r = [] ∨ r.all isDig = false) := by simp [h1, h2]
      rw [hu, if_neg hc, if_pos (head45 _)]
      by_cases h3 : dval 0 r ≤ 9223372036854775807
      · rw [if_pos h3]
        unfold Lib.signedC
        rw [e62]
        by_cases h4 : 4611686018427387904 < dval 0 r
        · simp [h4]
        · simp [h4]
      · have h4 : 4611686018427387904 < dval 0 r := by omega
        rw [if_neg h3, if_pos h4]; rfl
    · have hu : unsignedT (c :: r) = c :: r := by unfold unsignedT; rw [if_neg (head_ne h45 _)]
      rw [hu] at h1 h2 hP
      have hd : isDig c = true := by rw [List.all_cons, Bool.and_eq_true] at h2; exact h2.1
      rw [isDig_iff] at hd
      rw [Lib.parseIntB_plain 63 c r (by omega) (by omega), hP]
      unfold readF
      have hc : ¬ (c :: r = [] ∨ (c :: r).all isDig = false) := by rw [h2]; simp
      rw [hu, if_neg hc, if_neg (head_ne h45 _)]
      by_cases h3 : dval 0 (c :: r) ≤ 9223372036854775807
      · rw [if_pos h3]
        unfold Lib.signlessC
        rw [e62]
        by_cases h4 : 4611686018427387904 ≤ dval 0 (c :: r)
        · simp [h4]
        · simp [h4]
      · have h4 : 4611686018427387904 ≤ dval 0 (c :: r) := by omega
        rw [if_neg h3, if_pos h4]; rfl
end Go.Proofs.YtlailomhgipppaaGreatDoor
