/- What the readers compute, as functions of what is left and of the first error. -/
import Derived.Test.YtofmbpmmgpbdbaaDoorRdVal
namespace Go.Proofs.YtofmbpmmgpbdbaaDoor
open Wr

/-- The next number. -/
def rn (lo hi : Int) (b : List UInt8) (x : Int) : Int × List UInt8 × Int :=
  if x = 0 then
    match rdNum lo hi b with
    | .ok (n, r) => (n, r, 0)
    | .error y => (0, b, y)
  else (0, b, x)
/-- The next text. -/
def rs (hi : Int) (b : List UInt8) (x : Int) : List UInt8 × List UInt8 × Int :=
  if (rn 0 hi b x).2.2 = 0 then
    if ((rn 0 hi b x).2.1.length : Int) < (rn 0 hi b x).1 then ([], (rn 0 hi b x).2.1, 3) else ((rn 0 hi b x).2.1.take (rn 0 hi b x).1.toNat, (rn 0 hi b x).2.1.drop (rn 0 hi b x).1.toNat, 0)
  else ([], (rn 0 hi b x).2.1, (rn 0 hi b x).2.2)
theorem rdNum_ne {lo hi : Int} {b : List UInt8} {y : Int} (h : rdNum lo hi b = .error y) : y ≠ 0 := by
  unfold rdNum at h
  split at h
  · rename_i e he
    cases h
    have : ∀ (f k u : Nat) (b : List UInt8), rdv f k u b = .error 0 → False := by
      intro f
      induction f with
      | zero => intro k u b h; simp [rdv] at h
      | succ f ih =>
        intro k u b h
        cases b with
        | nil => simp [rdv] at h
        | cons x b =>
          rw [rdv] at h
          split at h
          · cases h
          · split at h
            · exact ih _ _ _ h
            · split at h <;> cases h
    rintro rfl
    exact this _ _ _ _ he
  · split at h
    · cases h; omega
    · cases h
theorem rn_ok {lo hi n : Int} {b r : List UInt8} (h : rdNum lo hi b = .ok (n, r)) : rn lo hi b 0 = (n, r, 0) := by unfold rn; rw [if_pos rfl, h]
theorem rn_err {lo hi y : Int} {b : List UInt8} (h : rdNum lo hi b = .error y) : rn lo hi b 0 = (0, b, y) := by unfold rn; rw [if_pos rfl, h]
theorem rn_past {lo hi x : Int} {b : List UInt8} (h : x ≠ 0) : rn lo hi b x = (0, b, x) := by unfold rn; rw [if_neg h]
theorem rn_le (lo hi : Int) (b : List UInt8) (x : Int) : (rn lo hi b x).2.1.length ≤ b.length := by
  unfold rn
  split
  · split
    · rename_i n r h
      obtain ⟨e, _, _⟩ := rdNum_sound h
      have := congrArg List.length e
      rw [List.length_append] at this
      simp only
      omega
    · exact Nat.le_refl _
  · exact Nat.le_refl _
theorem rn_in {lo hi : Int} (b : List UInt8) (x : Int) (h1 : lo ≤ 0) (h2 : 0 ≤ hi) : lo ≤ (rn lo hi b x).1 ∧ (rn lo hi b x).1 ≤ hi := by
  unfold rn
  split
  · split
    · rename_i n r h
      exact ⟨(rdNum_sound h).2.1, (rdNum_sound h).2.2⟩
    · exact ⟨h1, h2⟩
  · exact ⟨h1, h2⟩
theorem rn_count {lo hi : Int} (b : List UInt8) (x : Int) (h1 : 0 ≤ lo) (h2 : 0 ≤ hi) : 0 ≤ (rn lo hi b x).1 ∧ (rn lo hi b x).1 ≤ hi := by
  unfold rn
  split
  · split
    · rename_i n r h
      exact ⟨by have := (rdNum_sound h).2.1; simp only; omega, (rdNum_sound h).2.2⟩
    · exact ⟨by simp, h2⟩
  · exact ⟨by simp, h2⟩
theorem rs_le (hi : Int) (b : List UInt8) (x : Int) : (rs hi b x).2.1.length ≤ b.length := by
  have := rn_le 0 hi b x
  unfold rs
  split
  · split
    · exact this
    · simp only [List.length_drop]; omega
  · exact this
theorem rs_len (hi : Int) (b : List UInt8) (x : Int) : (rs hi b x).1.length ≤ b.length := by
  have := rn_le 0 hi b x
  unfold rs
  split
  · split
    · simp
    · simp only [List.length_take]; omega
  · simp

/-- What stands ahead of the parts: the kind, the number, the text, how many parts; what is left, the first error. -/
structure Hd where
  k : Int
  n : Int
  s : List UInt8
  m : Int
  r : List UInt8
  x : Int
def hdOf (b : List UInt8) (k : Int) (x : Int) : Hd :=
  if k = 0 then ⟨0, (rn (-4611686018427387904) 4611686018427387903 b x).1, [], 0, (rn (-4611686018427387904) 4611686018427387903 b x).2.1, (rn (-4611686018427387904) 4611686018427387903 b x).2.2⟩
  else if k = 1 ∨ k = 2 then ⟨k, 0, (rs 4096 b x).1, 0, (rs 4096 b x).2.1, (rs 4096 b x).2.2⟩
  else if k = 3 then ⟨3, (rn 0 255 b x).1, [], (rn 0 8 (rn 0 255 b x).2.1 (rn 0 255 b x).2.2).1, (rn 0 8 (rn 0 255 b x).2.1 (rn 0 255 b x).2.2).2.1, (rn 0 8 (rn 0 255 b x).2.1 (rn 0 255 b x).2.2).2.2⟩
  else if k = 4 then ⟨4, 0, [], (rn 2 8 b x).1, (rn 2 8 b x).2.1, (rn 2 8 b x).2.2⟩
  else if k = 5 then ⟨5, (rn 1 1099511627776 b x).1, [], 0, (rn 1 1099511627776 b x).2.1, (rn 1 1099511627776 b x).2.2⟩
  else ⟨k, 0, [], 0, b, x⟩
def hd (b : List UInt8) : Hd := hdOf (rn 0 6 b 0).2.1 (rn 0 6 b 0).1 (rn 0 6 b 0).2.2
def rvs (g : List UInt8 → VT × List UInt8 × Int) : Nat → List UInt8 → Int → List VT × List UInt8 × Int
  | 0, b, x => ([], b, x)
  | m + 1, b, x => if x = 0 then ((g b).1 :: (rvs g m (g b).2.1 (g b).2.2).1, (rvs g m (g b).2.1 (g b).2.2).2) else ([], b, x)
def rv : Nat → List UInt8 → VT × List UInt8 × Int
  | 0, b => (.node 0 0 ⟨#[]⟩ [], b, 2)
  | f + 1, b => (.node (hd b).k (hd b).n (bytes (hd b).s) (rvs (rv f) (hd b).m.toNat (hd b).r (hd b).x).1, (rvs (rv f) (hd b).m.toNat (hd b).r (hd b).x).2)
theorem rvs_past {g : List UInt8 → VT × List UInt8 × Int} {m : Nat} {b : List UInt8} {x : Int} (h : x ≠ 0) : rvs g m b x = ([], b, x) := by
  cases m with
  | zero => rfl
  | succ m => rw [rvs, if_neg h]
theorem hdOf_le (b : List UInt8) (k x : Int) : (hdOf b k x).r.length ≤ b.length := by
  unfold hdOf
  split
  · exact rn_le _ _ _ _
  · split
    · exact rs_le _ _ _
    · split
      · exact Nat.le_trans (rn_le _ _ _ _) (rn_le _ _ _ _)
      · split
        · exact rn_le _ _ _ _
        · split
          · exact rn_le _ _ _ _
          · exact Nat.le_refl _
theorem hd_le (b : List UInt8) : (hd b).r.length ≤ b.length := Nat.le_trans (hdOf_le _ _ _) (rn_le _ _ _ _)
theorem hd_m (b : List UInt8) : 0 ≤ (hd b).m ∧ (hd b).m ≤ 8 := by
  unfold hd hdOf
  split
  · simp
  · split
    · simp
    · split
      · exact rn_count _ _ (by omega) (by omega)
      · split
        · exact rn_count _ _ (by omega) (by omega)
        · split <;> simp
theorem rvs_le {g : List UInt8 → VT × List UInt8 × Int} (hg : ∀ b, (g b).2.1.length ≤ b.length) : ∀ (m : Nat) (b : List UInt8) (x : Int), (rvs g m b x).2.1.length ≤ b.length
  | 0, b, x => Nat.le_refl _
  | m + 1, b, x => by
    rw [rvs]
    split
    · exact Nat.le_trans (rvs_le hg m _ _) (hg b)
    · exact Nat.le_refl _
theorem rv_le : ∀ (f : Nat) (b : List UInt8), (rv f b).2.1.length ≤ b.length
  | 0, b => Nat.le_refl _
  | f + 1, b => Nat.le_trans (rvs_le (rv_le f) _ _ _) (hd_le b)

/-- As a result or an error. -/
def asEx {α : Type} (p : α × List UInt8 × Int) : Except Int (α × List UInt8) := if p.2.2 = 0 then .ok (p.1, p.2.1) else .error p.2.2
theorem asEx_rn {lo hi : Int} {b : List UInt8} : rdNum lo hi b = asEx (rn lo hi b 0) := by
  cases h : rdNum lo hi b with
  | ok v => rw [rn_ok (n := v.1) (r := v.2) h]; rfl
  | error y => rw [rn_err h]; unfold asEx; rw [if_neg (rdNum_ne h)]
theorem asEx_rs {hi : Int} {b : List UInt8} : rdStr hi b = asEx (rs hi b 0) := by
  unfold rdStr rs
  cases h : rdNum 0 hi b with
  | ok v =>
    obtain ⟨n, r⟩ := v
    rw [rn_ok h]
    simp only [if_true]
    split
    · rfl
    · rfl
  | error y =>
    have := rdNum_ne h
    rw [rn_err h]
    simp only [if_neg this]
    unfold asEx
    rw [if_neg this]
theorem rdKids_rvs {g : List UInt8 → Except Int (VT × List UInt8)} {g' : List UInt8 → VT × List UInt8 × Int} (hg : ∀ b, g b = asEx (g' b)) : ∀ (m : Nat) (b : List UInt8), rdKids g m b = asEx (rvs g' m b 0)
  | 0, b => rfl
  | m + 1, b => by
    rw [rdKids, rvs, if_pos rfl, hg b]
    by_cases h : (g' b).2.2 = 0
    · rw [show asEx (g' b) = .ok ((g' b).1, (g' b).2.1) by unfold asEx; rw [if_pos h]]
      simp only
      rw [rdKids_rvs hg m, h]
      unfold asEx
      simp only
      by_cases h2 : (rvs g' m (g' b).2.1 0).2.2 = 0
      · rw [if_pos h2, if_pos h2]
      · rw [if_neg h2, if_neg h2]
    · rw [show asEx (g' b) = .error (g' b).2.2 by unfold asEx; rw [if_neg h]]
      simp only
      rw [rvs_past h]
      unfold asEx
      rw [if_neg h]
theorem rv_eq : ∀ (f : Nat) (b : List UInt8), rdVal f b = asEx (rv f b)
  | 0, b => rfl
  | f + 1, b => by
    rw [rdVal, rv]
    cases hk : rdNum 0 6 b with
    | error y =>
      have hy := rdNum_ne hk
      simp only
      have e : hd b = ⟨0, 0, [], 0, b, y⟩ := by
        unfold hd; rw [rn_err hk]; unfold hdOf; rw [if_pos rfl, rn_past hy]
      rw [e, rvs_past hy]
      unfold asEx
      rw [if_neg hy]
    | ok v =>
      obtain ⟨k, b1⟩ := v
      simp only
      have e : hd b = hdOf b1 k 0 := by unfold hd; rw [rn_ok hk]
      rw [e]
      unfold hdOf
      by_cases h0 : k = 0
      · rw [if_pos h0, if_pos h0, asEx_rn]
        simp only [Int.toNat_zero, rvs]
        unfold asEx
        by_cases hx : (rn (-4611686018427387904) 4611686018427387903 b1 0).2.2 = 0
        · rw [if_pos hx, if_pos hx]; rfl
        · rw [if_neg hx, if_neg hx]
      · rw [if_neg h0, if_neg h0]
        by_cases h1 : k = 1 ∨ k = 2
        · rw [if_pos h1, if_pos h1, asEx_rs]
          simp only [Int.toNat_zero, rvs]
          unfold asEx
          by_cases hx : (rs 4096 b1 0).2.2 = 0
          · rw [if_pos hx, if_pos hx]
          · rw [if_neg hx, if_neg hx]
        · rw [if_neg h1, if_neg h1]
          by_cases h3 : k = 3
          · rw [if_pos h3, if_pos h3, asEx_rn]
            by_cases hx : (rn 0 255 b1 0).2.2 = 0
            · rw [show asEx (rn 0 255 b1 0) = .ok ((rn 0 255 b1 0).1, (rn 0 255 b1 0).2.1) by unfold asEx; rw [if_pos hx]]
              simp only
              rw [asEx_rn, hx]
              by_cases hy : (rn 0 8 (rn 0 255 b1 0).2.1 0).2.2 = 0
              · rw [show asEx (rn 0 8 (rn 0 255 b1 0).2.1 0) = .ok ((rn 0 8 (rn 0 255 b1 0).2.1 0).1, (rn 0 8 (rn 0 255 b1 0).2.1 0).2.1) by unfold asEx; rw [if_pos hy]]
                simp only
                rw [rdKids_rvs (rv_eq f), hy]
                generalize (rvs (rv f) _ _ _) = q
                unfold asEx
                by_cases hq : q.2.2 = 0
                · rw [if_pos hq, if_pos hq]; rfl
                · rw [if_neg hq, if_neg hq]
              · rw [show asEx (rn 0 8 (rn 0 255 b1 0).2.1 0) = .error (rn 0 8 (rn 0 255 b1 0).2.1 0).2.2 by unfold asEx; rw [if_neg hy]]
                simp only
                rw [rvs_past hy]
                unfold asEx
                rw [if_neg hy]
            · rw [show asEx (rn 0 255 b1 0) = .error (rn 0 255 b1 0).2.2 by unfold asEx; rw [if_neg hx]]
              simp only
              rw [rn_past hx, rvs_past hx]
              unfold asEx
              rw [if_neg hx]
          · rw [if_neg h3, if_neg h3]
            by_cases h4 : k = 4
            · rw [if_pos h4, if_pos h4, asEx_rn]
              by_cases hy : (rn 2 8 b1 0).2.2 = 0
              · rw [show asEx (rn 2 8 b1 0) = .ok ((rn 2 8 b1 0).1, (rn 2 8 b1 0).2.1) by unfold asEx; rw [if_pos hy]]
                simp only
                rw [rdKids_rvs (rv_eq f), hy]
                generalize (rvs (rv f) _ _ _) = q
                unfold asEx
                by_cases hq : q.2.2 = 0
                · rw [if_pos hq, if_pos hq]; rfl
                · rw [if_neg hq, if_neg hq]
              · rw [show asEx (rn 2 8 b1 0) = .error (rn 2 8 b1 0).2.2 by unfold asEx; rw [if_neg hy]]
                simp only
                rw [rvs_past hy]
                unfold asEx
                rw [if_neg hy]
            · rw [if_neg h4, if_neg h4]
              by_cases h5 : k = 5
              · rw [if_pos h5, if_pos h5, asEx_rn]
                simp only [Int.toNat_zero, rvs]
                unfold asEx
                by_cases hx : (rn 1 1099511627776 b1 0).2.2 = 0
                · rw [if_pos hx, if_pos hx]; rfl
                · rw [if_neg hx, if_neg hx]
              · rw [if_neg h5, if_neg h5]
                have := (rdNum_sound hk).2
                obtain rfl : k = 6 := by omega
                rfl
end Go.Proofs.YtofmbpmmgpbdbaaDoor
