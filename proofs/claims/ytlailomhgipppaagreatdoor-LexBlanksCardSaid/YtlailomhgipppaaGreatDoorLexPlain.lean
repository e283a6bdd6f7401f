/- Layer 10 in plain words: a text's tokens. No program in sight. -/
import Derived.Test.YtlailomhgipppaaGreatDoorFlRead
import Derived.Test.YtlailomhgipppaaGreatDoorNumRead
namespace Go.Proofs.YtlailomhgipppaaGreatDoor
set_option linter.unusedSimpArgs false
set_option linter.unusedVariables false
namespace Lx

def isBl (c : UInt8) : Bool := c == 32 || c == 9 || c == 10
def isEnd (c : UInt8) : Bool := c == 32 || c == 9 || c == 10 || c == 40 || c == 41 || c == 34 || c == 59
def isGreat (c : UInt8) : Bool := decide (65 ≤ c.toNat) && decide (c.toNat ≤ 90)
def isSmall (c : UInt8) : Bool := decide (97 ≤ c.toNat) && decide (c.toNat ≤ 122)
def signs : List UInt8 := [39, 43, 42, 47, 60, 62, 61, 33, 63, 95, 46, 45]
def isSign (c : UInt8) : Bool := signs.contains c
def inCon (c : UInt8) : Bool := isGreat c || isSmall c || isDig c
def inName (c : UInt8) : Bool := inCon c || isSign c
def conW : List UInt8 → Bool
  | [] => false
  | c :: r => isGreat c && (c :: r).all inCon
def nameW : List UInt8 → Bool
  | [] => false
  | c :: r => (isSmall c || isSign c) && (c :: r).all inName
def eight (x : Nat) : List UInt8 := [56, 48, 40, 32, 24, 16, 8, 0].map fun k => UInt8.ofNat (x / 2 ^ k)
/-- What a word is: kind, number, text. -/
def wordT (w : List UInt8) : Option (Nat × Int × List UInt8) :=
  if (readF w).2 = 0 then some (2, (readF w).1, [])
  else if (floatT w).2 = 0 then some (3, 0, eight (floatT w).1)
  else if decide (40 < w.length) || (!(unsignedT w).isEmpty && (unsignedT w).all isDig) then none
  else if conW w then some (6, 0, w)
  else if nameW w then some (5, 0, w)
  else none
structure Tok where
  kind : Nat
  line : Nat
  col : Nat
  num : Int
  text : List UInt8
abbrev Pos := Nat × Nat
def adv (p : Pos) (c : UInt8) : Pos := if c = 10 then (p.1 + 1, 1) else (p.1, p.2 + 1)
def advs (p : Pos) (l : List UInt8) : Pos := l.foldl adv p
def hexv (c : UInt8) : Int := if 48 ≤ c.toNat ∧ c.toNat ≤ 57 then (c.toNat : Int) - 48 else if 97 ≤ c.toNat ∧ c.toNat ≤ 102 then (c.toNat : Int) - 87 else -1
/-- What stands behind a backslash: the byte it says, and how many bytes say it. -/
def escT : List UInt8 → Option (UInt8 × Nat)
  | [] => none
  | d :: r => if d = 34 ∨ d = 92 then some (d, 1) else if d = 110 then some (10, 1) else if d = 120 then match r with
      | a :: b :: _ => if 0 ≤ hexv a ∧ 0 ≤ hexv b then some (UInt8.ofNat ((hexv a).toNat * 16 + (hexv b).toNat), 3) else none
      | _ => none
    else none
/-- A string behind its first quote: its bytes, the rest, the place there; or where it is wrong. -/
def strT (at_ : Pos) : Nat → List UInt8 → Pos → List UInt8 → Except Pos (List UInt8 × List UInt8 × Pos)
  | _, [], _, _ => .error at_
  | 0, _ :: _, _, _ => .error at_
  | f + 1, c :: r, p, b =>
    if c = 34 then if 4096 < b.length then .error at_ else .ok (b, r, adv p c)
    else if c.toNat < 32 then .error p
    else if c ≠ 92 then strT at_ f r (adv p c) (b ++ [c])
    else if r = [] then .error at_
    else match escT r with
      | none => .error (adv p c)
      | some (x, n) => strT at_ f (r.drop n) (advs (adv p c) (r.take n)) (b ++ [x])
def stepT (c : UInt8) (r : List UInt8) (p : Pos) : Except Pos (List UInt8 × Pos × List Tok) :=
  if isBl c then .ok (r, adv p c, [])
  else if c = 59 then .ok (r.dropWhile (· != 10), advs p (c :: r.takeWhile (· != 10)), [])
  else if c = 40 then .ok (r, adv p c, [⟨0, p.1, p.2, 0, []⟩])
  else if c = 41 then .ok (r, adv p c, [⟨1, p.1, p.2, 0, []⟩])
  else if c = 34 then match strT p r.length r (adv p c) [] with
    | .error e => .error e
    | .ok (b, r', p') => .ok (r', p', [⟨4, p.1, p.2, 0, b⟩])
  else match wordT (c :: r.takeWhile (fun d => !isEnd d)) with
    | none => .error p
    | some (k, n, t) => .ok (r.dropWhile (fun d => !isEnd d), advs p (c :: r.takeWhile (fun d => !isEnd d)), [⟨k, p.1, p.2, n, t⟩])
def scanF : Nat → List UInt8 → Pos → List Tok → Except Pos (List Tok)
  | _, [], _, out => .ok out
  | 0, _ :: _, _, out => .ok out
  | f + 1, c :: r, p, out => match stepT c r p with
    | .error e => .error e
    | .ok (r', p', t) => scanF f r' p' (out ++ t)
def scanT (l : List UInt8) : Except Pos (List Tok) := scanF l.length l (1, 1) []

theorem advs_append (p : Pos) (a b : List UInt8) : advs p (a ++ b) = advs (advs p a) b := List.foldl_append ..
theorem advs_cons (p : Pos) (c : UInt8) (l : List UInt8) : advs p (c :: l) = advs (adv p c) l := rfl
theorem strT_len (at_ : Pos) : ∀ (f : Nat) (l : List UInt8) (p : Pos) (b : List UInt8) {b' r' p'}, strT at_ f l p b = .ok (b', r', p') → r'.length < l.length
  | _, [], _, _, _, _, _, h => by unfold strT at h; cases h
  | 0, _ :: _, _, _, _, _, _, h => by unfold strT at h; cases h
  | f + 1, c :: r, p, b, b', r', p', h => by
    unfold strT at h
    split at h
    · split at h
      · cases h
      · cases h; simp
    · split at h
      · cases h
      · split at h
        · have := strT_len at_ f _ _ _ h; simp; omega
        · split at h
          · cases h
          · split at h
            · cases h
            · have := strT_len at_ f _ _ _ h
              simp only [List.length_drop, List.length_cons] at this ⊢
              omega
theorem stepT_len {c : UInt8} {r r' : List UInt8} {p p' : Pos} {t : List Tok} (h : stepT c r p = .ok (r', p', t)) : r'.length ≤ r.length := by
  unfold stepT at h
  split at h
  · cases h; exact Nat.le_refl _
  · split at h
    · cases h; exact (List.dropWhile_sublist _).length_le
    · split at h
      · cases h; exact Nat.le_refl _
      · split at h
        · cases h; exact Nat.le_refl _
        · split at h
          · split at h
            · cases h
            · rename_i h1; cases h; exact Nat.le_of_lt (strT_len _ _ _ _ _ h1)
          · split at h
            · cases h
            · cases h; exact (List.dropWhile_sublist _).length_le
/-- More fuel changes nothing. -/
theorem strT_fuel (at_ : Pos) : ∀ (f g : Nat) (l : List UInt8) (p : Pos) (b : List UInt8), l.length ≤ f → l.length ≤ g → strT at_ f l p b = strT at_ g l p b
  | _, _, [], _, _, _, _ => by unfold strT; rfl
  | 0, _, _ :: _, _, _, h, _ => by simp at h
  | _ + 1, 0, _ :: _, _, _, _, h => by simp at h
  | f + 1, g + 1, c :: r, p, b, h1, h2 => by
    simp only [List.length_cons] at h1 h2
    unfold strT
    split
    · rfl
    · split
      · rfl
      · split
        · exact strT_fuel at_ f g _ _ _ (by omega) (by omega)
        · split
          · rfl
          · cases escT r with
            | none => rfl
            | some x => exact strT_fuel at_ f g _ _ _ (by rw [List.length_drop]; omega) (by rw [List.length_drop]; omega)
theorem scanF_fuel : ∀ (f g : Nat) (l : List UInt8) (p : Pos) (o : List Tok), l.length ≤ f → l.length ≤ g → scanF f l p o = scanF g l p o
  | _, _, [], _, _, _, _ => by unfold scanF; rfl
  | 0, _, _ :: _, _, _, h, _ => by simp at h
  | _ + 1, 0, _ :: _, _, _, _, h => by simp at h
  | f + 1, g + 1, c :: r, p, o, h1, h2 => by
    simp only [List.length_cons] at h1 h2
    unfold scanF
    cases hs : stepT c r p with
    | error e => rfl
    | ok x =>
      obtain ⟨r', p', t⟩ := x
      have := stepT_len hs
      exact scanF_fuel f g _ _ _ (by omega) (by omega)
end Lx
end Go.Proofs.YtlailomhgipppaaGreatDoor
