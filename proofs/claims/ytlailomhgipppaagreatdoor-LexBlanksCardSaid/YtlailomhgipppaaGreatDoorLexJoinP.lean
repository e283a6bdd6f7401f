/- Layer 10 in plain words: two texts, a new line between them. -/
import Derived.Test.YtlailomhgipppaaGreatDoorLexPlain
namespace Go.Proofs.YtlailomhgipppaaGreatDoor
set_option linter.unusedSimpArgs false
set_option linter.unusedVariables false
namespace Lx

def shP (k : Nat) (q : Pos) : Pos := (q.1 + k, q.2)
def shT (k : Nat) (t : Tok) : Tok := { t with line := t.line + k }
theorem adv_sh (k : Nat) (q : Pos) (c : UInt8) : adv (shP k q) c = shP k (adv q c) := by
  unfold adv shP
  split <;> simp <;> omega
theorem advs_sh (k : Nat) : ∀ (l : List UInt8) (q : Pos), advs (shP k q) l = shP k (advs q l)
  | [], _ => rfl
  | c :: l, q => by rw [advs_cons, adv_sh, advs_sh k l, ← advs_cons]
theorem strT_sh (k : Nat) (at_ : Pos) : ∀ (f : Nat) (l : List UInt8) (p : Pos) (b : List UInt8), strT (shP k at_) f l (shP k p) b = match strT at_ f l p b with
    | .error e => .error (shP k e)
    | .ok (x, r, q) => .ok (x, r, shP k q)
  | _, [], _, _ => by unfold strT; rfl
  | 0, _ :: _, _, _ => by unfold strT; rfl
  | f + 1, c :: r, p, b => by
    conv => lhs; unfold strT
    conv => rhs; unfold strT
    by_cases h1 : c = 34
    · rw [if_pos h1, if_pos h1]
      by_cases h2 : 4096 < b.length
      · rw [if_pos h2, if_pos h2]
      · rw [if_neg h2, if_neg h2, adv_sh]
    · rw [if_neg h1, if_neg h1]
      by_cases h2 : c.toNat < 32
      · rw [if_pos h2, if_pos h2]
      · rw [if_neg h2, if_neg h2]
        by_cases h3 : c ≠ 92
        · rw [if_pos h3, if_pos h3, adv_sh]
          exact strT_sh k at_ f _ _ _
        · rw [if_neg h3, if_neg h3]
          by_cases h4 : r = []
          · rw [if_pos h4, if_pos h4]
          · rw [if_neg h4, if_neg h4]
            cases escT r with
            | none => simp only [adv_sh]
            | some x =>
              simp only [adv_sh, advs_sh]
              exact strT_sh k at_ f _ _ _
theorem stepT_sh (k : Nat) (c : UInt8) (r : List UInt8) (q : Pos) : stepT c r (shP k q) = match stepT c r q with
    | .error e => .error (shP k e)
    | .ok (r', q', t) => .ok (r', shP k q', t.map (shT k)) := by
  unfold stepT
  by_cases h1 : isBl c = true
  · rw [if_pos h1, if_pos h1, adv_sh]; rfl
  · rw [if_neg h1, if_neg h1]
    by_cases h2 : c = 59
    · rw [if_pos h2, if_pos h2, advs_sh]; rfl
    · rw [if_neg h2, if_neg h2]
      by_cases h3 : c = 40
      · rw [if_pos h3, if_pos h3, adv_sh]; rfl
      · rw [if_neg h3, if_neg h3]
        by_cases h4 : c = 41
        · rw [if_pos h4, if_pos h4, adv_sh]; rfl
        · rw [if_neg h4, if_neg h4]
          by_cases h5 : c = 34
          · rw [if_pos h5, if_pos h5, adv_sh, strT_sh]
            cases strT q r.length r (adv q c) [] with
            | error e => rfl
            | ok x => rfl
          · rw [if_neg h5, if_neg h5]
            cases wordT (c :: r.takeWhile fun d => !isEnd d) with
            | none => rfl
            | some x => simp only [advs_sh]; rfl
theorem scanF_out : ∀ (f : Nat) (l : List UInt8) (q : Pos) (o : List Tok), scanF f l q o = match scanF f l q [] with
    | .error e => .error e
    | .ok ts => .ok (o ++ ts)
  | _, [], _, o => by unfold scanF; simp
  | 0, _ :: _, _, o => by unfold scanF; simp
  | f + 1, c :: r, q, o => by
    conv => lhs; unfold scanF
    conv => rhs; unfold scanF
    cases stepT c r q with
    | error e => rfl
    | ok x =>
      obtain ⟨r', q', t⟩ := x
      simp only [List.nil_append]
      rw [scanF_out f r' q' (o ++ t), scanF_out f r' q' t]
      cases scanF f r' q' [] with
      | error e => rfl
      | ok ts => simp only [List.append_assoc]
theorem scanF_sh (k : Nat) : ∀ (f : Nat) (l : List UInt8) (q : Pos), scanF f l (shP k q) [] = match scanF f l q [] with
    | .error e => .error (shP k e)
    | .ok ts => .ok (ts.map (shT k))
  | _, [], _ => by unfold scanF; rfl
  | 0, _ :: _, _ => by unfold scanF; rfl
  | f + 1, c :: r, q => by
    conv => lhs; unfold scanF
    conv => rhs; unfold scanF
    rw [stepT_sh]
    cases stepT c r q with
    | error e => rfl
    | ok x =>
      obtain ⟨r', q', t⟩ := x
      simp only [List.nil_append]
      rw [scanF_out f r' (shP k q') (t.map (shT k)), scanF_sh k f r' q', scanF_out f r' q' t]
      cases scanF f r' q' [] with
      | error e => rfl
      | ok ts => simp only [List.map_append]
/-- What is read, and where it ends. -/
theorem escT_app {r : List UInt8} {x : UInt8} {n : Nat} (m : List UInt8) (h : escT r = some (x, n)) : escT (r ++ m) = some (x, n) ∧ n ≤ r.length := by
  match r, h with
  | d :: r, h =>
    rw [show escT (d :: r) = (if d = 34 ∨ d = 92 then some (d, 1) else if d = 110 then some (10, 1) else if d = 120 then match r with
      | a :: b :: _ => if 0 ≤ hexv a ∧ 0 ≤ hexv b then some (UInt8.ofNat ((hexv a).toNat * 16 + (hexv b).toNat), 3) else none
      | _ => none
    else none) from rfl] at h
    rw [List.cons_append, show escT (d :: (r ++ m)) = (if d = 34 ∨ d = 92 then some (d, 1) else if d = 110 then some (10, 1) else if d = 120 then match r ++ m with
      | a :: b :: _ => if 0 ≤ hexv a ∧ 0 ≤ hexv b then some (UInt8.ofNat ((hexv a).toNat * 16 + (hexv b).toNat), 3) else none
      | _ => none
    else none) from rfl]
    by_cases h1 : d = 34 ∨ d = 92
    · rw [if_pos h1] at h ⊢; cases h; simp
    · rw [if_neg h1] at h ⊢
      by_cases h2 : d = 110
      · rw [if_pos h2] at h ⊢; cases h; simp
      · rw [if_neg h2] at h ⊢
        by_cases h3 : d = 120
        · rw [if_pos h3] at h ⊢
          match r, h with
          | a :: b :: r', h =>
            by_cases h4 : 0 ≤ hexv a ∧ 0 ≤ hexv b
            · simp only [if_pos h4] at h; cases h; simp [h4]
            · simp only [if_neg h4] at h; cases h
        · rw [if_neg h3] at h; cases h
theorem strT_app (at_ : Pos) (m : List UInt8) : ∀ (f : Nat) (l : List UInt8) (p : Pos) (b : List UInt8) {x r q}, l.length ≤ f → strT at_ f l p b = .ok (x, r, q) →
    (∀ g, (l ++ m).length ≤ g → strT at_ g (l ++ m) p b = .ok (x, r ++ m, q)) ∧ ∃ d, l = d ++ r ∧ q = advs p d
  | _, [], _, _, _, _, _, _, h => by unfold strT at h; cases h
  | 0, _ :: _, _, _, _, _, _, hl, _ => by simp at hl
  | f + 1, c :: r0, p, b, x, r, q, hl, h => by
    simp only [List.length_cons] at hl
    unfold strT at h
    have hg : ∀ {P : Nat → Prop}, (∀ g, (r0 ++ m).length ≤ g → P (g + 1)) → ∀ g, ((c :: r0) ++ m).length ≤ g → P g := fun hP g hlg => by
      obtain ⟨g', rfl⟩ : ∃ g', g = g' + 1 := ⟨g - 1, by simp at hlg; omega⟩
      exact hP g' (by simp at hlg ⊢; omega)
    by_cases h1 : c = 34
    · rw [if_pos h1] at h
      by_cases h2 : 4096 < b.length
      · rw [if_pos h2] at h; cases h
      · rw [if_neg h2] at h
        cases h
        refine ⟨hg fun g _ => ?_, [c], rfl, rfl⟩
        rw [List.cons_append]
        unfold strT
        rw [if_pos h1, if_neg h2]
    · rw [if_neg h1] at h
      by_cases h2 : c.toNat < 32
      · rw [if_pos h2] at h; cases h
      · rw [if_neg h2] at h
        by_cases h3 : c ≠ 92
        · rw [if_pos h3] at h
          obtain ⟨h5, d, h6, h7⟩ := strT_app at_ m f _ _ _ (by omega) h
          refine ⟨hg fun g hlg => ?_, c :: d, by rw [h6]; rfl, by rw [h7, advs_cons]⟩
          rw [List.cons_append]
          unfold strT
          rw [if_neg h1, if_neg h2, if_pos h3]
          exact h5 g hlg
        · rw [if_neg h3] at h
          by_cases h4 : r0 = []
          · rw [if_pos h4] at h; cases h
          · rw [if_neg h4] at h
            cases he : escT r0 with
            | none => rw [he] at h; cases h
            | some y =>
              obtain ⟨y, n⟩ := y
              rw [he] at h
              obtain ⟨he2, hn⟩ := escT_app m he
              obtain ⟨h5, d, h6, h7⟩ := strT_app at_ m f _ _ _ (by rw [List.length_drop]; omega) h
              refine ⟨hg fun g hlg => ?_, c :: (r0.take n ++ d), ?_, ?_⟩
              · rw [List.cons_append]
                unfold strT
                rw [if_neg h1, if_neg h2, if_neg h3, if_neg (by simp [h4]), he2]
                have e1 : (r0 ++ m).drop n = r0.drop n ++ m := List.drop_append_of_le_length hn
                have e2 : (r0 ++ m).take n = r0.take n := List.take_append_of_le_length hn
                simp only [e1, e2]
                exact h5 g (by rw [List.length_append, List.length_drop]; rw [List.length_append] at hlg; omega)
              · rw [List.cons_append, List.append_assoc, ← h6, List.take_append_drop]
              · rw [h7, advs_cons, advs_append]
theorem dw_app {p : UInt8 → Bool} {m : List UInt8} (hm : ∀ c r, m = c :: r → p c = false) : ∀ r : List UInt8, (r ++ m).dropWhile p = r.dropWhile p ++ m ∧ (r ++ m).takeWhile p = r.takeWhile p
  | [] => by
    cases m with
    | nil => exact ⟨rfl, rfl⟩
    | cons c m =>
      have := hm c m rfl
      simp [List.dropWhile_cons, List.takeWhile_cons, this]
  | c :: r => by
    obtain ⟨h1, h2⟩ := dw_app hm r
    rw [List.cons_append, List.dropWhile_cons, List.takeWhile_cons, List.dropWhile_cons, List.takeWhile_cons]
    cases p c <;> simp [h1, h2]
theorem stepT_app (b : List UInt8) {c : UInt8} {r r' : List UInt8} {q q' : Pos} {t : List Tok} (h : stepT c r q = .ok (r', q', t)) :
    stepT c (r ++ 10 :: b) q = .ok (r' ++ 10 :: b, q', t) ∧ ∃ d, c :: r = d ++ r' ∧ q' = advs q d := by
  unfold stepT at h ⊢
  by_cases h1 : isBl c = true
  · rw [if_pos h1] at h ⊢; cases h; exact ⟨rfl, [c], rfl, rfl⟩
  · rw [if_neg h1] at h ⊢
    by_cases h2 : c = 59
    · rw [if_pos h2] at h ⊢
      cases h
      obtain ⟨e1, e2⟩ := dw_app (p := (· != 10)) (m := 10 :: b) (fun c r h => by cases h; rfl) r
      exact ⟨by rw [e1, e2], c :: r.takeWhile (· != 10), by rw [List.cons_append, List.takeWhile_append_dropWhile], rfl⟩
    · rw [if_neg h2] at h ⊢
      by_cases h3 : c = 40
      · rw [if_pos h3] at h ⊢; cases h; exact ⟨rfl, [c], rfl, rfl⟩
      · rw [if_neg h3] at h ⊢
        by_cases h4 : c = 41
        · rw [if_pos h4] at h ⊢; cases h; exact ⟨rfl, [c], rfl, rfl⟩
        · rw [if_neg h4] at h ⊢
          by_cases h5 : c = 34
          · rw [if_pos h5] at h ⊢
            cases hs : strT q r.length r (adv q c) [] with
            | error e => rw [hs] at h; cases h
            | ok x =>
              obtain ⟨x, r2, q2⟩ := x
              rw [hs] at h
              cases h
              obtain ⟨h6, d, h7, h8⟩ := strT_app q (10 :: b) r.length r _ _ (Nat.le_refl _) hs
              rw [h6 _ (Nat.le_refl _)]
              exact ⟨rfl, c :: d, by rw [h7]; rfl, by rw [h8, advs_cons]⟩
          · rw [if_neg h5] at h ⊢
            obtain ⟨e1, e2⟩ := dw_app (p := fun d => !isEnd d) (m := 10 :: b) (fun c r h => by cases h; rfl) r
            rw [e1, e2]
            cases hw : wordT (c :: r.takeWhile fun d => !isEnd d) with
            | none => rw [hw] at h; cases h
            | some x =>
              obtain ⟨k, n, tt⟩ := x
              rw [hw] at h
              cases h
              exact ⟨rfl, c :: r.takeWhile (fun d => !isEnd d), by rw [List.cons_append, List.takeWhile_append_dropWhile], rfl⟩
theorem scanF_join (b : List UInt8) : ∀ (f : Nat) (a : List UInt8) (q : Pos) (o : List Tok) {ts}, a.length ≤ f → scanF f a q o = .ok ts →
    ∀ g, (a ++ 10 :: b).length ≤ g → scanF g (a ++ 10 :: b) q o = scanF b.length b ((advs q a).1 + 1, 1) ts
  | _, [], q, o, ts, _, h, g, hg => by
    unfold scanF at h
    cases h
    obtain ⟨g', rfl⟩ : ∃ g', g = g' + 1 := ⟨g - 1, by simp at hg; omega⟩
    rw [List.nil_append]
    conv => lhs; unfold scanF
    have e : stepT 10 b q = .ok (b, (q.1 + 1, 1), []) := rfl
    rw [e]
    simp only [List.append_nil]
    exact scanF_fuel _ _ _ _ _ (by simp at hg; omega) (Nat.le_refl _)
  | 0, _ :: _, _, _, _, hl, _, _, _ => by simp at hl
  | f + 1, c :: r, q, o, ts, hl, h, g, hg => by
    simp only [List.length_cons] at hl
    obtain ⟨g', rfl⟩ : ∃ g', g = g' + 1 := ⟨g - 1, by simp at hg; omega⟩
    unfold scanF at h
    cases hs : stepT c r q with
    | error e => rw [hs] at h; cases h
    | ok x =>
      obtain ⟨r', q', t⟩ := x
      rw [hs] at h
      have hlr := stepT_len hs
      obtain ⟨h1, d, h2, h3⟩ := stepT_app b hs
      rw [List.cons_append]
      conv => lhs; unfold scanF
      rw [h1]
      simp only
      rw [scanF_join b f r' q' (o ++ t) (by omega) h g' (by simp at hg ⊢; omega), h2, advs_append, ← h3]
theorem advs_line : ∀ (l : List UInt8) (q : Pos), (advs q l).1 = q.1 + l.count 10
  | [], q => by simp [advs]
  | c :: l, q => by
    rw [advs_cons, advs_line l, List.count_cons]
    unfold adv
    by_cases h : c = 10
    · subst h; simp; omega
    · rw [if_neg h]; simp [h]
theorem scan_join {a b : List UInt8} {ts : List Tok} (h : scanT a = .ok ts) : scanT (a ++ 10 :: b) = match scanT b with
    | .error e => .error (shP (1 + a.count 10) e)
    | .ok us => .ok (ts ++ us.map (shT (1 + a.count 10))) := by
  unfold scanT at h ⊢
  rw [scanF_join b _ a _ _ (Nat.le_refl _) h _ (Nat.le_refl _), advs_line, scanF_out]
  rw [show ((1 + a.count 10 + 1, 1) : Pos) = shP (1 + a.count 10) (1, 1) by unfold shP; simp; omega, scanF_sh]
  cases scanF b.length b (1, 1) [] with
  | error e => rfl
  | ok us => rfl
theorem adv_le (q : Pos) (c : UInt8) : q.1 ≤ (adv q c).1 ∧ (adv q c).1 ≤ q.1 + 1 := by unfold adv; split <;> simp
theorem advs_le (l : List UInt8) (q : Pos) : q.1 ≤ (advs q l).1 ∧ (advs q l).1 ≤ q.1 + l.length := by
  rw [advs_line]
  have := List.count_le_length (a := (10 : UInt8)) (l := l)
  omega
theorem strT_err (at_ : Pos) : ∀ (f : Nat) (l : List UInt8) (p : Pos) (b : List UInt8) {x}, at_.1 ≤ p.1 → strT at_ f l p b = .error x → x.1 ≤ p.1 + l.length
  | _, [], _, _, _, ha, h => by unfold strT at h; cases h; omega
  | 0, _ :: _, _, _, _, ha, h => by unfold strT at h; cases h; omega
  | f + 1, c :: r, p, b, x, ha, h => by
    have h0 := adv_le p c
    unfold strT at h
    rw [List.length_cons]
    by_cases h1 : c = 34
    · rw [if_pos h1] at h
      by_cases h2 : 4096 < b.length
      · rw [if_pos h2] at h; cases h; omega
      · rw [if_neg h2] at h; cases h
    · rw [if_neg h1] at h
      by_cases h2 : c.toNat < 32
      · rw [if_pos h2] at h; cases h; omega
      · rw [if_neg h2] at h
        by_cases h3 : c ≠ 92
        · rw [if_pos h3] at h
          have := strT_err at_ f _ _ _ (by omega) h
          omega
        · rw [if_neg h3] at h
          by_cases h4 : r = []
          · rw [if_pos h4] at h; cases h; omega
          · rw [if_neg h4] at h
            cases he : escT r with
            | none => rw [he] at h; cases h; omega
            | some y =>
              obtain ⟨y, n⟩ := y
              rw [he] at h
              have h5 := advs_le (r.take n) (adv p c)
              have := strT_err at_ f _ _ _ (by omega) h
              rw [List.length_drop] at this
              rw [List.length_take] at h5
              omega
theorem stepT_err {c : UInt8} {r : List UInt8} {q x : Pos} (h : stepT c r q = .error x) : x.1 ≤ q.1 + r.length + 1 := by
  unfold stepT at h
  by_cases h1 : isBl c = true
  · rw [if_pos h1] at h; cases h
  · rw [if_neg h1] at h
    by_cases h2 : c = 59
    · rw [if_pos h2] at h; cases h
    · rw [if_neg h2] at h
      by_cases h3 : c = 40
      · rw [if_pos h3] at h; cases h
      · rw [if_neg h3] at h
        by_cases h4 : c = 41
        · rw [if_pos h4] at h; cases h
        · rw [if_neg h4] at h
          by_cases h5 : c = 34
          · rw [if_pos h5] at h
            have h0 := adv_le q c
            cases hs : strT q r.length r (adv q c) [] with
            | error e =>
              rw [hs] at h
              cases h
              have := strT_err q _ _ _ _ (by omega) hs
              omega
            | ok y => rw [hs] at h; cases h
          · rw [if_neg h5] at h
            cases hw : wordT (c :: r.takeWhile fun d => !isEnd d) with
            | none => rw [hw] at h; cases h; omega
            | some y => rw [hw] at h; cases h
theorem stepT_pos {c : UInt8} {r r' : List UInt8} {q q' : Pos} {t : List Tok} (h : stepT c r q = .ok (r', q', t)) : q'.1 + r'.length ≤ q.1 + r.length + 1 := by
  obtain ⟨_, d, h1, h2⟩ := stepT_app [] h
  have h3 := congrArg List.length h1
  rw [List.length_append, List.length_cons] at h3
  have := advs_le d q
  rw [h2]
  omega
theorem scanF_err : ∀ (f : Nat) (l : List UInt8) (q : Pos) (o : List Tok) {x}, scanF f l q o = .error x → x.1 ≤ q.1 + l.length
  | _, [], _, _, _, h => by unfold scanF at h; cases h
  | 0, _ :: _, _, _, _, h => by unfold scanF at h; cases h
  | f + 1, c :: r, q, o, x, h => by
    unfold scanF at h
    rw [List.length_cons]
    cases hs : stepT c r q with
    | error e => rw [hs] at h; cases h; have := stepT_err hs; omega
    | ok y =>
      obtain ⟨r', q', t⟩ := y
      rw [hs] at h
      have h1 := scanF_err f _ _ _ h
      have h2 := stepT_pos hs
      omega
theorem stepT_line {c : UInt8} {r r' : List UInt8} {q q' : Pos} {t : List Tok} (h : stepT c r q = .ok (r', q', t)) : ∀ x ∈ t, x.line = q.1 := by
  unfold stepT at h
  by_cases h1 : isBl c = true
  · rw [if_pos h1] at h; cases h; simp
  · rw [if_neg h1] at h
    by_cases h2 : c = 59
    · rw [if_pos h2] at h; cases h; simp
    · rw [if_neg h2] at h
      by_cases h3 : c = 40
      · rw [if_pos h3] at h; cases h; simp
      · rw [if_neg h3] at h
        by_cases h4 : c = 41
        · rw [if_pos h4] at h; cases h; simp
        · rw [if_neg h4] at h
          by_cases h5 : c = 34
          · rw [if_pos h5] at h
            cases hs : strT q r.length r (adv q c) [] with
            | error e => rw [hs] at h; cases h
            | ok y => rw [hs] at h; cases h; simp
          · rw [if_neg h5] at h
            cases hw : wordT (c :: r.takeWhile fun d => !isEnd d) with
            | none => rw [hw] at h; cases h
            | some y => rw [hw] at h; cases h; simp
theorem scanF_line : ∀ (f : Nat) (l : List UInt8) (q : Pos) (o : List Tok) {ts} (M : Nat), q.1 + l.length ≤ M → (∀ x ∈ o, x.line ≤ M) → scanF f l q o = .ok ts → ∀ x ∈ ts, x.line ≤ M
  | _, [], _, _, _, _, _, ho, h => by unfold scanF at h; cases h; exact ho
  | 0, _ :: _, _, _, _, _, _, ho, h => by unfold scanF at h; cases h; exact ho
  | f + 1, c :: r, q, o, ts, M, hM, ho, h => by
    unfold scanF at h
    rw [List.length_cons] at hM
    cases hs : stepT c r q with
    | error e => rw [hs] at h; cases h
    | ok y =>
      obtain ⟨r', q', t⟩ := y
      rw [hs] at h
      have h2 := stepT_pos hs
      refine scanF_line f _ _ _ M (by omega) (fun x hx => ?_) h
      rcases List.mem_append.1 hx with hx | hx
      · exact ho x hx
      · rw [stepT_line hs x hx]; omega
end Lx
end Go.Proofs.YtlailomhgipppaaGreatDoor
