/- Values that are read, in plain words: what is read is what was written. -/
import Derived.Test.YtofmbpmmgpbdbaaDoorEncPlain
import Derived.Test.YtofmbpmmgpbdbaaDoorRdPlain
namespace Go.Proofs.YtofmbpmmgpbdbaaDoor
open Wr

def rdNum (lo hi : Int) (b : List UInt8) : Except Int (Int × List UInt8) :=
  match rdv 10 0 0 b with
  | .error e => .error e
  | .ok (u, r) => if zag u < lo ∨ hi < zag u then .error 4 else .ok (zag u, r)
def rdStr (hi : Int) (b : List UInt8) : Except Int (List UInt8 × List UInt8) :=
  match rdNum 0 hi b with
  | .error e => .error e
  | .ok (n, r) => if (r.length : Int) < n then .error 3 else .ok (r.take n.toNat, r.drop n.toNat)
def rdKids (g : List UInt8 → Except Int (VT × List UInt8)) : Nat → List UInt8 → Except Int (List VT × List UInt8)
  | 0, b => .ok ([], b)
  | m + 1, b =>
    match g b with
    | .error e => .error e
    | .ok (t, b1) =>
      match rdKids g m b1 with
      | .error e => .error e
      | .ok (l, r) => .ok (t :: l, r)
/-- A value, so many levels at most. -/
def rdVal : Nat → List UInt8 → Except Int (VT × List UInt8)
  | 0, _ => .error 2
  | f + 1, b =>
    match rdNum 0 6 b with
    | .error e => .error e
    | .ok (k, b1) =>
      if k = 0 then
        match rdNum (-4611686018427387904) 4611686018427387903 b1 with
        | .error e => .error e
        | .ok (n, r) => .ok (.node 0 n ⟨#[]⟩ [], r)
      else if k = 1 ∨ k = 2 then
        match rdStr 4096 b1 with
        | .error e => .error e
        | .ok (s, r) => .ok (.node k 0 (bytes s) [], r)
      else if k = 3 then
        match rdNum 0 255 b1 with
        | .error e => .error e
        | .ok (n, b2) =>
          match rdNum 0 8 b2 with
          | .error e => .error e
          | .ok (m, b3) =>
            match rdKids (rdVal f) m.toNat b3 with
            | .error e => .error e
            | .ok (l, r) => .ok (.node 3 n ⟨#[]⟩ l, r)
      else if k = 4 then
        match rdNum 2 8 b1 with
        | .error e => .error e
        | .ok (m, b3) =>
          match rdKids (rdVal f) m.toNat b3 with
          | .error e => .error e
          | .ok (l, r) => .ok (.node 4 0 ⟨#[]⟩ l, r)
      else if k = 5 then
        match rdNum 1 1099511627776 b1 with
        | .error e => .error e
        | .ok (n, r) => .ok (.node 5 n ⟨#[]⟩ [], r)
      else .ok (.node 6 0 ⟨#[]⟩ [], b1)

theorem rdNum_sound {lo hi n : Int} {b r : List UInt8} (h : rdNum lo hi b = .ok (n, r)) : b = num n ++ r ∧ lo ≤ n ∧ n ≤ hi := by
  unfold rdNum at h
  split at h
  · cases h
  · rename_i u r' hu
    split at h
    · cases h
    · rename_i hr
      simp only [Except.ok.injEq, Prod.mk.injEq] at h
      obtain ⟨rfl, rfl⟩ := h
      obtain ⟨v, h1, h2, _⟩ := rdv_sound 10 0 0 b u r' hu
      have e : u = v := by simpa using h1
      subst e
      refine ⟨?_, by omega, by omega⟩
      unfold num
      rw [zig_zag]
      exact h2
theorem rdNum_full {lo hi n : Int} (r : List UInt8) (h1 : lo ≤ n) (h2 : n ≤ hi) (h3 : -9223372036854775808 ≤ n) (h4 : n ≤ 9223372036854775807) : rdNum lo hi (num n ++ r) = .ok (n, r) := by
  have h := rdv_full 10 0 0 (zig n) r rfl (by omega) (by have := zig_lt h3 h4; simpa using this) (fun h => by omega)
  unfold rdNum num
  rw [h]
  simp only [Nat.mul_zero, Nat.pow_zero, Nat.mul_one, Nat.zero_add, zag_zig]
  rw [if_neg (by omega)]
theorem rdStr_sound {hi : Int} {b s r : List UInt8} (h : rdStr hi b = .ok (s, r)) : b = str s ++ r ∧ (s.length : Int) ≤ hi := by
  unfold rdStr at h
  split at h
  · cases h
  · rename_i n r' hn
    obtain ⟨e, h0, h1⟩ := rdNum_sound hn
    split at h
    · cases h
    · rename_i hl
      simp only [Except.ok.injEq, Prod.mk.injEq] at h
      obtain ⟨rfl, rfl⟩ := h
      have hlen : (r'.take n.toNat).length = n.toNat := by rw [List.length_take]; omega
      have hn' : ((n.toNat : Nat) : Int) = n := by omega
      refine ⟨?_, by rw [hlen]; omega⟩
      unfold str
      rw [hlen, hn', List.append_assoc, List.take_append_drop]
      exact e
theorem rdStr_full {hi : Int} (s r : List UInt8) (h : (s.length : Int) ≤ hi) (h2 : (s.length : Int) ≤ 1000000000) : rdStr hi (str s ++ r) = .ok (s, r) := by
  have := rdNum_full (lo := 0) (hi := hi) (n := (s.length : Int)) (s ++ r) (by omega) h (by omega) (by omega)
  unfold rdStr str
  rw [List.append_assoc, this]
  simp only
  rw [if_neg (by rw [List.length_append]; omega), Int.toNat_natCast, List.take_left, List.drop_left]
theorem bytes_list (s : ByteArray) : bytes s.data.toList = s := by
  apply Go.WideShapes.bytes_inj; simp [bytes]
theorem list_bytes (l : List UInt8) : (bytes l).data.toList = l := by simp [bytes]
theorem rdKids_sound {g : List UInt8 → Except Int (VT × List UInt8)} (hg : ∀ b t r, g b = .ok (t, r) → b = t.enc ++ r) : ∀ (m : Nat) (b : List UInt8) (l : List VT) (r : List UInt8), rdKids g m b = .ok (l, r) → b = VT.encs l ++ r ∧ l.length = m
  | 0, b, l, r, h => by
    rw [rdKids] at h
    simp only [Except.ok.injEq, Prod.mk.injEq] at h
    obtain ⟨rfl, rfl⟩ := h
    rw [VT.encs]
    exact ⟨rfl, rfl⟩
  | m + 1, b, l, r, h => by
    rw [rdKids] at h
    split at h
    · cases h
    · rename_i t b1 ht
      split at h
      · cases h
      · rename_i l' r' hl
        simp only [Except.ok.injEq, Prod.mk.injEq] at h
        obtain ⟨rfl, rfl⟩ := h
        obtain ⟨e1, e2⟩ := rdKids_sound hg m b1 l' r' hl
        rw [VT.encs, hg b t b1 ht, e1, List.append_assoc, List.length_cons, e2]
        exact ⟨rfl, rfl⟩
theorem rdVal_sound : ∀ (f : Nat) (b : List UInt8) (t : VT) (r : List UInt8), rdVal f b = .ok (t, r) → b = t.enc ++ r
  | 0, b, t, r, h => by rw [rdVal] at h; cases h
  | f + 1, b, t, r, h => by
    rw [rdVal] at h
    split at h
    · cases h
    · rename_i k b1 hk
      obtain ⟨e0, k0, k6⟩ := rdNum_sound hk
      split at h
      · rename_i hk0
        split at h
        · cases h
        · rename_i n r' hn
          obtain ⟨e1, _, _⟩ := rdNum_sound hn
          simp only [Except.ok.injEq, Prod.mk.injEq] at h
          obtain ⟨rfl, rfl⟩ := h
          rw [e0, e1, hk0, VT.enc, VT.encs, topOf, if_pos (.inl rfl)]
          simp
      · split at h
        · rename_i hk0 hk12
          split at h
          · cases h
          · rename_i s r' hs
            obtain ⟨e1, _⟩ := rdStr_sound hs
            simp only [Except.ok.injEq, Prod.mk.injEq] at h
            obtain ⟨rfl, rfl⟩ := h
            rw [e0, e1, VT.enc, VT.encs, topOf, if_neg (by omega), if_pos hk12, list_bytes]
            simp
        · split at h
          · rename_i hk0 hk12 hk3
            split at h
            · cases h
            · rename_i n b2 hn
              split at h
              · cases h
              · rename_i m b3 hm
                split at h
                · cases h
                · rename_i l r' hl
                  obtain ⟨e1, _, _⟩ := rdNum_sound hn
                  obtain ⟨e2, m0, _⟩ := rdNum_sound hm
                  obtain ⟨e3, e4⟩ := rdKids_sound (rdVal_sound f) _ _ _ _ hl
                  simp only [Except.ok.injEq, Prod.mk.injEq] at h
                  obtain ⟨rfl, rfl⟩ := h
                  have hm' : (l.length : Int) = m := by rw [e4]; omega
                  rw [e0, e1, e2, e3, hk3, VT.enc, topOf, if_neg (by omega), if_neg (by omega), if_pos rfl, hm']
                  simp
          · split at h
            · rename_i hk0 hk12 hk3 hk4
              split at h
              · cases h
              · rename_i m b3 hm
                split at h
                · cases h
                · rename_i l r' hl
                  obtain ⟨e2, m0, _⟩ := rdNum_sound hm
                  obtain ⟨e3, e4⟩ := rdKids_sound (rdVal_sound f) _ _ _ _ hl
                  simp only [Except.ok.injEq, Prod.mk.injEq] at h
                  obtain ⟨rfl, rfl⟩ := h
                  have hm' : (l.length : Int) = m := by rw [e4]; omega
                  rw [e0, e2, e3, hk4, VT.enc, topOf, if_neg (by omega), if_neg (by omega), if_neg (by omega), if_pos rfl, hm']
                  simp
            · split at h
              · rename_i hk0 hk12 hk3 hk4 hk5
                split at h
                · cases h
                · rename_i n r' hn
                  obtain ⟨e1, _, _⟩ := rdNum_sound hn
                  simp only [Except.ok.injEq, Prod.mk.injEq] at h
                  obtain ⟨rfl, rfl⟩ := h
                  rw [e0, e1, hk5, VT.enc, VT.encs, topOf, if_pos (.inr rfl)]
                  simp
              · simp only [Except.ok.injEq, Prod.mk.injEq] at h
                obtain ⟨rfl, rfl⟩ := h
                have hk6 : k = 6 := by omega
                rw [e0, hk6, VT.enc, VT.encs, topOf, if_neg (by omega), if_neg (by omega), if_neg (by omega), if_neg (by omega)]
                simp

theorem rdKids_full {g : List UInt8 → Except Int (VT × List UInt8)} {d : Int} (hg : ∀ (t : VT) (r : List UInt8), t.right d = true → g (t.enc ++ r) = .ok (t, r)) : ∀ (l : List VT) (r : List UInt8), VT.rights l d = true → rdKids g l.length (VT.encs l ++ r) = .ok (l, r)
  | [], r, _ => by rw [VT.encs]; rfl
  | t :: l, r, h => by
    rw [VT.rights_cons, Bool.and_eq_true] at h
    rw [VT.encs, List.length_cons, rdKids, List.append_assoc, hg t _ h.1]
    simp only
    rw [rdKids_full hg l r h.2]
theorem empty_eq {s : ByteArray} (h : emptyB s = true) : s = ⟨#[]⟩ := by
  have h0 : s.size = 0 := by simpa [emptyB] using h
  apply Go.WideShapes.bytes_inj
  exact List.eq_nil_of_length_eq_zero (by simpa using h0)
theorem wr_self {n : Int} (h : n = wr n) : -4611686018427387904 ≤ n ∧ n ≤ 4611686018427387903 := ⟨by rw [h]; exact wr_ge n, by rw [h]; exact wr_le n⟩
theorem rdVal_full : ∀ (f : Nat) (t : VT) (d : Int) (r : List UInt8), t.right d = true → (f : Int) + d = 201 → rdVal f (t.enc ++ r) = .ok (t, r)
  | 0, t, d, r, h, hd => by
    obtain ⟨k, n, s, l⟩ := t
    have := (VT.right_parts h).2.2
    omega
  | f + 1, t, d, r, h, hd => by
    obtain ⟨k, n, s, l⟩ := t
    obtain ⟨h1, h2, h3⟩ := VT.right_parts h
    obtain ⟨k0, k6, _⟩ := fits_parts h1
    have hk := fun (b : List UInt8) => rdNum_full (lo := 0) (hi := 6) (n := k) b k0 k6 (by omega) (by omega)
    rw [rdVal, VT.enc, List.append_assoc, List.append_assoc, hk]
    simp only
    have hc : k = 0 ∨ k = 1 ∨ k = 2 ∨ k = 3 ∨ k = 4 ∨ k = 5 ∨ k = 6 := by omega
    rcases hc with rfl | rfl | rfl | rfl | rfl | rfl | rfl
    · simp only [fitsB, if_true, Bool.and_eq_true, decide_eq_true_eq] at h1
      have hl := List.length_eq_zero_iff.1 h1.2
      have hs := empty_eq h1.1.2
      obtain ⟨w1, w2⟩ := wr_self h1.1.1
      subst hl hs
      rw [if_pos rfl, VT.encs, topOf, if_pos (.inl rfl), List.nil_append, rdNum_full r w1 w2 (by omega) (by omega)]
    · simp [fitsB] at h1
      have hl := h1.1.2
      subst hl
      obtain ⟨⟨⟨rfl, h8⟩, _⟩, _⟩ := h1
      rw [if_neg (by omega), if_pos (.inl rfl), VT.encs, topOf, if_neg (by omega), if_pos (.inl rfl), List.nil_append, rdStr_full _ r (by simp; omega) (by simp; omega)]
      simp only [bytes_list]
    · simp [fitsB] at h1
      obtain ⟨⟨rfl, h8⟩, rfl⟩ := h1
      rw [if_neg (by omega), if_pos (.inr rfl), VT.encs, topOf, if_neg (by omega), if_pos (.inr rfl), List.nil_append, rdStr_full _ r (by simp; omega) (by simp; omega)]
      simp only [bytes_list]
    · simp [fitsB] at h1
      obtain ⟨⟨⟨n0, n1⟩, hs⟩, hm⟩ := h1
      have hs := empty_eq hs
      subst hs
      rw [if_neg (by omega), if_neg (by omega), if_pos rfl, topOf, if_neg (by omega), if_neg (by omega), if_pos rfl, List.append_assoc, rdNum_full _ n0 n1 (by omega) (by omega)]
      simp only
      rw [rdNum_full _ (by omega) (by omega) (by omega) (by omega)]
      simp only
      rw [Int.toNat_natCast, rdKids_full (d := d + 1) (fun t r ht => rdVal_full f t (d + 1) r ht (by omega)) l r h2]
    · simp [fitsB] at h1
      obtain ⟨⟨⟨rfl, hs⟩, m2⟩, m8⟩ := h1
      have hs := empty_eq hs
      subst hs
      rw [if_neg (by omega), if_neg (by omega), if_neg (by omega), if_pos rfl, topOf, if_neg (by omega), if_neg (by omega), if_neg (by omega), if_pos rfl, rdNum_full _ (by omega) (by omega) (by omega) (by omega)]
      simp only
      rw [Int.toNat_natCast, rdKids_full (d := d + 1) (fun t r ht => rdVal_full f t (d + 1) r ht (by omega)) l r h2]
    · simp [fitsB] at h1
      obtain ⟨⟨⟨n0, n1⟩, hs⟩, rfl⟩ := h1
      have hs := empty_eq hs
      subst hs
      rw [if_neg (by omega), if_neg (by omega), if_neg (by omega), if_neg (by omega), if_pos rfl, VT.encs, topOf, if_pos (.inr rfl), List.nil_append, rdNum_full r n0 n1 (by omega) (by omega)]
    · simp [fitsB] at h1
      obtain ⟨⟨rfl, hs⟩, rfl⟩ := h1
      have hs := empty_eq hs
      subst hs
      rw [if_neg (by omega), if_neg (by omega), if_neg (by omega), if_neg (by omega), if_neg (by omega), VT.encs, topOf, if_neg (by omega), if_neg (by omega), if_neg (by omega), if_neg (by omega)]
      rfl
end Go.Proofs.YtofmbpmmgpbdbaaDoor
