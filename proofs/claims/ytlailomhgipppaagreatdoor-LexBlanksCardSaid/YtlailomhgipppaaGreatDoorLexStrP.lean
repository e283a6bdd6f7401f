/- Layer 10 in plain words: a string that says each byte by its digits. -/
import Derived.Test.YtlailomhgipppaaGreatDoorLexPlain
namespace Go.Proofs.YtlailomhgipppaaGreatDoor
set_option linter.unusedSimpArgs false
set_option linter.unusedVariables false
namespace Lx

def hexd (n : Nat) : UInt8 := if n < 10 then UInt8.ofNat (48 + n) else UInt8.ofNat (87 + n)
def hx (c : UInt8) : List UInt8 := [92, 120, hexd (c.toNat / 16), hexd (c.toNat % 16)]
def hxs (l : List UInt8) : List UInt8 := l.flatMap hx
theorem hx_esc (c : UInt8) (m : List UInt8) : escT (120 :: hexd (c.toNat / 16) :: hexd (c.toNat % 16) :: m) = some (c, 3) := by
  have h : ∀ k : Fin 256, 0 ≤ hexv (hexd ((UInt8.ofNat k.val).toNat / 16)) ∧ 0 ≤ hexv (hexd ((UInt8.ofNat k.val).toNat % 16)) ∧ UInt8.ofNat ((hexv (hexd ((UInt8.ofNat k.val).toNat / 16))).toNat * 16 + (hexv (hexd ((UInt8.ofNat k.val).toNat % 16))).toNat) = UInt8.ofNat k.val := by decide +kernel
  have h1 := h ⟨c.toNat, c.toNat_lt⟩
  simp only [UInt8.ofNat_toNat] at h1
  simp [escT, h1.1, h1.2.1, h1.2.2]
theorem hx_adv (c : UInt8) (p : Pos) : advs p (hx c) = (p.1, p.2 + 4) := by
  have h : ∀ k : Fin 256, hexd ((UInt8.ofNat k.val).toNat / 16) ≠ 10 ∧ hexd ((UInt8.ofNat k.val).toNat % 16) ≠ 10 := by decide +kernel
  have h1 := h ⟨c.toNat, c.toNat_lt⟩
  simp only [UInt8.ofNat_toNat] at h1
  simp [hx, advs, adv, h1.1, h1.2]
theorem strT_hxs (at_ : Pos) (m : List UInt8) : ∀ (l : List UInt8) (f : Nat) (p : Pos) (b : List UInt8), (hxs l ++ m).length ≤ f → strT at_ f (hxs l ++ m) p b = strT at_ (f - l.length) m (p.1, p.2 + 4 * l.length) (b ++ l)
  | [], f, p, b, _ => by simp [hxs]
  | c :: l, f, p, b, hf => by
    have e : hxs (c :: l) ++ m = 92 :: 120 :: hexd (c.toNat / 16) :: hexd (c.toNat % 16) :: (hxs l ++ m) := by simp [hxs, hx]
    rw [e] at hf ⊢
    obtain ⟨g, rfl⟩ : ∃ g, f = g + 1 := ⟨f - 1, by simp at hf; omega⟩
    conv => lhs; unfold strT
    rw [if_neg (by decide), if_neg (by decide), if_neg (by decide), if_neg (by simp), hx_esc]
    simp only [List.drop_succ_cons, List.drop_zero, List.take_succ_cons, List.take_zero]
    have ha : advs (adv p 92) [120, hexd (c.toNat / 16), hexd (c.toNat % 16)] = (p.1, p.2 + 4) := by
      have := hx_adv c p
      unfold hx at this
      rwa [advs_cons] at this
    rw [ha, strT_hxs at_ m l g _ _ (by simp at hf; simp; omega)]
    simp only [List.length_cons, List.append_assoc, List.singleton_append]
    congr 1
    · omega
    · congr 1; omega
theorem scanF_nls (m : List UInt8) : ∀ (n f : Nat) (q : Pos) (o : List Tok), q.2 = 1 → (List.replicate n 10 ++ m).length ≤ f → scanF f (List.replicate n 10 ++ m) q o = scanF m.length m (q.1 + n, 1) o
  | 0, f, q, o, hq, hf => by
    rw [List.replicate_zero, List.nil_append] at hf ⊢
    have e : q = (q.1 + 0, 1) := by rw [← hq]; rfl
    rw [← e]
    exact scanF_fuel _ _ _ _ _ hf (Nat.le_refl _)
  | n + 1, f, q, o, hq, hf => by
    rw [List.replicate_succ, List.cons_append] at hf ⊢
    obtain ⟨g, rfl⟩ : ∃ g, f = g + 1 := ⟨f - 1, by simp at hf; omega⟩
    conv => lhs; unfold scanF
    have e : stepT 10 (List.replicate n 10 ++ m) q = .ok (List.replicate n 10 ++ m, (q.1 + 1, 1), []) := rfl
    rw [e]
    simp only [List.append_nil]
    rw [scanF_nls m n g _ _ rfl (by simp at hf; simp; omega)]
    simp only
    congr 1
    congr 1
    omega
theorem hxs_len : ∀ l : List UInt8, (hxs l).length = 4 * l.length
  | [] => rfl
  | c :: l => by
    have e : hxs (c :: l) = hx c ++ hxs l := rfl
    have h4 : (hx c).length = 4 := rfl
    rw [e, List.length_append, hxs_len l, h4, List.length_cons]
    omega
theorem scan_str (l : List UInt8) (n : Nat) : scanT (List.replicate n 10 ++ 34 :: (hxs l ++ [34])) = if 4096 < l.length then .error (1 + n, 1) else .ok [⟨4, 1 + n, 1, 0, l⟩] := by
  unfold scanT
  rw [scanF_nls _ n _ _ _ rfl (Nat.le_refl _), List.length_cons]
  conv => lhs; unfold scanF
  have e : stepT 34 (hxs l ++ [34]) (1 + n, 1) = match strT (1 + n, 1) (hxs l ++ [34]).length (hxs l ++ [34]) (adv (1 + n, 1) 34) [] with
    | .error e => .error e
    | .ok (b, r', p') => .ok (r', p', [⟨4, 1 + n, 1, 0, b⟩]) := rfl
  rw [e, strT_hxs _ _ _ _ _ _ (Nat.le_refl _)]
  have hl : l.length < (hxs l ++ [34]).length := by
    have := hxs_len l
    rw [List.length_append, List.length_singleton]
    omega
  obtain ⟨g, hg⟩ : ∃ g, (hxs l ++ [34]).length - l.length = g + 1 := ⟨(hxs l ++ [34]).length - l.length - 1, by omega⟩
  rw [hg]
  unfold strT
  rw [if_pos rfl, List.nil_append]
  by_cases h : 4096 < l.length
  · rw [if_pos h, if_pos h]
  · rw [if_neg h, if_neg h]
    simp only [List.nil_append]
    unfold scanF
    rfl
theorem scan_open (l : List UInt8) (n : Nat) : scanT (List.replicate n 10 ++ 32 :: 34 :: hxs l) = .error (1 + n, 2) := by
  unfold scanT
  rw [scanF_nls _ n _ _ _ rfl (Nat.le_refl _), List.length_cons, List.length_cons]
  conv => lhs; unfold scanF
  have e : stepT 32 (34 :: hxs l) (1 + n, 1) = .ok (34 :: hxs l, (1 + n, 2), []) := rfl
  rw [e]
  simp only [List.append_nil]
  unfold scanF
  have e2 : stepT 34 (hxs l) (1 + n, 2) = match strT (1 + n, 2) (hxs l).length (hxs l) (adv (1 + n, 2) 34) [] with
    | .error e => .error e
    | .ok (b, r', p') => .ok (r', p', [⟨4, 1 + n, 2, 0, b⟩]) := rfl
  rw [e2]
  have h3 := strT_hxs (1 + n, 2) [] l (hxs l).length (adv (1 + n, 2) 34) [] (by simp)
  rw [List.append_nil] at h3
  rw [h3]
  unfold strT
  rfl
end Lx
end Go.Proofs.YtlailomhgipppaaGreatDoor
