/- Layer 10 in plain words: tokens written anew, blanks between them. -/
import Derived.Test.YtlailomhgipppaaGreatDoorLexStrP
import Derived.Test.YtlailomhgipppaaGreatDoorLexJoinP
namespace Go.Proofs.YtlailomhgipppaaGreatDoor
set_option linter.unusedSimpArgs false
set_option linter.unusedVariables false
namespace Lx

def half : List UInt8 := [63, 224, 0, 0, 0, 0, 0, 0]
theorem word_half : wordT [48, 46, 53] = some (3, 0, half) := by decide +kernel
/-- A token, as it is written. -/
def spellT (t : Tok) : List UInt8 :=
  if t.kind = 0 then [40] else if t.kind = 1 then [41] else if t.kind = 2 then Lib.itoa t.num else if t.kind = 3 then [48, 46, 53]
  else if t.kind = 4 then 34 :: (hxs t.text ++ [34]) else t.text
/-- What is read of it at a place. -/
def wantT (t : Tok) (q : Pos) : Tok := if t.kind = 3 then ⟨3, q.1, q.2, 0, half⟩ else ⟨t.kind, q.1, q.2, t.num, t.text⟩
/-- What tokens are. -/
inductive Good : Tok → Prop
  | open_ (l c : Nat) : Good ⟨0, l, c, 0, []⟩
  | close (l c : Nat) : Good ⟨1, l, c, 0, []⟩
  | int (l c : Nat) (n : Int) : -4611686018427387904 ≤ n → n ≤ 4611686018427387903 → Good ⟨2, l, c, n, []⟩
  | float (l c : Nat) (t : List UInt8) : t.length = 8 → Good ⟨3, l, c, 0, t⟩
  | str (l c : Nat) (t : List UInt8) : t.length ≤ 4096 → Good ⟨4, l, c, 0, t⟩
  | word (k l c : Nat) (t : List UInt8) : (k = 5 ∨ k = 6) → wordT t = some (k, 0, t) → t ≠ [] → t.all (fun d => !isEnd d) = true → Good ⟨k, l, c, 0, t⟩
theorem readF_range {l : List UInt8} (h : (readF l).2 = 0) : -4611686018427387904 ≤ (readF l).1 ∧ (readF l).1 ≤ 4611686018427387903 := by
  unfold readF at h ⊢
  by_cases h1 : unsignedT l = [] ∨ (unsignedT l).all isDig = false
  · rw [if_pos h1] at h; cases h
  · rw [if_neg h1] at h ⊢
    by_cases h2 : l.head? = some 45
    · rw [if_pos h2] at h ⊢
      by_cases h3 : 4611686018427387904 < dval 0 (unsignedT l)
      · rw [if_pos h3] at h; cases h
      · rw [if_neg h3]; simp only; omega
    · rw [if_neg h2] at h ⊢
      by_cases h3 : 4611686018427387904 ≤ dval 0 (unsignedT l)
      · rw [if_pos h3] at h; cases h
      · rw [if_neg h3]; simp only; omega
theorem escT_pos : ∀ {l : List UInt8} {x : UInt8} {n : Nat}, escT l = some (x, n) → 1 ≤ n
  | [], _, _, h => by unfold escT at h; cases h
  | d :: r, x, n, h => by
    simp only [escT] at h
    by_cases h1 : d = 34 ∨ d = 92
    · rw [if_pos h1] at h; cases h; omega
    · rw [if_neg h1] at h
      by_cases h2 : d = 110
      · rw [if_pos h2] at h; cases h; omega
      · rw [if_neg h2] at h
        by_cases h3 : d = 120
        · rw [if_pos h3] at h
          split at h
          · split at h
            · cases h; omega
            · cases h
          · cases h
        · rw [if_neg h3] at h; cases h
theorem strT_text (at_ : Pos) : ∀ (f : Nat) (l : List UInt8) (p : Pos) (b : List UInt8) {b' r' p'}, strT at_ f l p b = .ok (b', r', p') → b'.length ≤ 4096 ∧ b'.length + r'.length + 1 ≤ b.length + l.length
  | _, [], _, _, _, _, _, h => by unfold strT at h; cases h
  | 0, _ :: _, _, _, _, _, _, h => by unfold strT at h; cases h
  | f + 1, c :: r, p, b, b', r', p', h => by
    unfold strT at h
    split at h
    · split at h
      · cases h
      · cases h; constructor
        · omega
        · simp; omega
    · split at h
      · cases h
      · split at h
        · have := strT_text at_ f _ _ _ h; simp at this ⊢; omega
        · split at h
          · cases h
          · split at h
            · cases h
            · rename_i hr _ x n he
              have := strT_text at_ f _ _ _ h
              have hn : 1 ≤ n := escT_pos he
              have hr1 : 1 ≤ r.length := by cases r with
                | nil => exact absurd rfl hr
                | cons d m => simp
              simp only [List.length_append, List.length_drop, List.length_cons, List.length_nil] at this ⊢
              omega
/-- How many of a text's bytes a token says at least. -/
def tlen (t : Tok) : Nat := if t.kind = 3 then 0 else t.text.length
theorem stepT_good {c : UInt8} {r r' : List UInt8} {q q' : Pos} {t : List Tok} (h : stepT c r q = .ok (r', q', t)) :
    (∀ x ∈ t, Good x) ∧ (t.map tlen).sum + r'.length ≤ r.length + 1 := by
  unfold stepT at h
  split at h
  · cases h; simp
  · split at h
    · cases h
      refine ⟨by simp, ?_⟩
      have := (List.dropWhile_sublist (fun x => x != (10 : UInt8)) (l := r)).length_le
      simp; omega
    · split at h
      · cases h; exact ⟨by intro x hx; simp at hx; subst hx; exact .open_ _ _, by simp [tlen]⟩
      · split at h
        · cases h; exact ⟨by intro x hx; simp at hx; subst hx; exact .close _ _, by simp [tlen]⟩
        · split at h
          · split at h
            · cases h
            · rename_i h1; cases h
              have := strT_text _ _ _ _ _ h1
              exact ⟨by intro x hx; simp at hx; subst hx; exact .str _ _ _ this.1, by simp [tlen] at this ⊢; omega⟩
          · split at h
            · cases h
            · rename_i hb hc h4 h5 hs _ k n tt hw
              cases h
              have hne : isEnd c = false := by
                have hb' : (c == 32 || c == 9 || c == 10) = false := by simpa [isBl] using hb
                unfold isEnd
                simp only [Bool.or_eq_false_iff, beq_eq_false_iff_ne] at hb' ⊢
                exact ⟨⟨⟨⟨hb', h4⟩, h5⟩, hs⟩, hc⟩
              have hlen : (c :: r.takeWhile (fun d => !isEnd d)).length + (r.dropWhile (fun d => !isEnd d)).length = r.length + 1 := by
                have := congrArg List.length (List.takeWhile_append_dropWhile (p := fun d => !isEnd d) (l := r))
                rw [List.length_append] at this
                rw [List.length_cons]; omega
              have hall : (c :: r.takeWhile (fun d => !isEnd d)).all (fun d => !isEnd d) = true := by
                rw [List.all_cons, hne]
                simp only [Bool.not_false, Bool.true_and]
                exact List.all_takeWhile
              generalize hww : c :: r.takeWhile (fun d => !isEnd d) = ww at *
              have hw0 := hw
              unfold wordT at hw
              split at hw
              · rename_i h0
                cases hw
                have := readF_range h0
                exact ⟨by intro x hx; simp at hx; subst hx; exact .int _ _ _ this.1 this.2, by simp [tlen]; omega⟩
              · split at hw
                · cases hw
                  exact ⟨by intro x hx; simp at hx; subst hx; exact .float _ _ _ (by simp [eight]), by simp [tlen]; omega⟩
                · split at hw
                  · cases hw
                  · split at hw
                    · cases hw
                      exact ⟨by intro x hx; simp at hx; subst hx; exact .word _ _ _ _ (.inr rfl) hw0 (by rw [← hww]; simp) hall, by simp [tlen]; omega⟩
                    · split at hw
                      · cases hw
                        exact ⟨by intro x hx; simp at hx; subst hx; exact .word _ _ _ _ (.inl rfl) hw0 (by rw [← hww]; simp) hall, by simp [tlen]; omega⟩
                      · cases hw
theorem scanF_good : ∀ (f : Nat) (l : List UInt8) (q : Pos) (o : List Tok) {ts}, (∀ x ∈ o, Good x) → scanF f l q o = .ok ts → (∀ x ∈ ts, Good x) ∧ (ts.map tlen).sum ≤ (o.map tlen).sum + l.length
  | _, [], _, _, _, ho, h => by unfold scanF at h; cases h; exact ⟨ho, by simp⟩
  | 0, _ :: _, _, _, _, ho, h => by unfold scanF at h; cases h; exact ⟨ho, by omega⟩
  | f + 1, c :: r, q, o, ts, ho, h => by
    unfold scanF at h
    cases hs : stepT c r q with
    | error e => rw [hs] at h; cases h
    | ok x =>
      obtain ⟨r', q', t⟩ := x
      rw [hs] at h
      have hg := stepT_good hs
      have := scanF_good f _ _ _ (fun x hx => by rcases List.mem_append.1 hx with hx | hx; exact ho x hx; exact hg.1 x hx) h
      refine ⟨this.1, ?_⟩
      have h2 := this.2
      rw [List.map_append, List.sum_append] at h2
      rw [List.length_cons]
      omega
/-- What is passed over. -/
def Skips (g : List UInt8) : Prop := ∀ (m : List UInt8) (q : Pos) (o : List Tok) (f : Nat), (g ++ m).length ≤ f → scanF f (g ++ m) q o = scanF m.length m (advs q g) o
theorem skip_nil : Skips [] := fun m q o f h => scanF_fuel _ _ _ _ _ h (Nat.le_refl _)
theorem skip_bl {c : UInt8} {g : List UInt8} (hc : isBl c = true) (h : Skips g) : Skips (c :: g) := fun m q o f hf => by
  obtain ⟨k, rfl⟩ : ∃ k, f = k + 1 := ⟨f - 1, by simp at hf; omega⟩
  rw [List.cons_append]
  conv => lhs; unfold scanF
  have e : stepT c (g ++ m) q = .ok (g ++ m, adv q c, []) := by unfold stepT; rw [if_pos hc]
  rw [e]
  simp only [List.append_nil]
  rw [h m _ _ k (by simp at hf ⊢; omega), advs_cons]
theorem skip_rem {x g : List UInt8} (hx : x.all (fun d => d != 10) = true) (h : Skips g) : Skips (59 :: (x ++ 10 :: g)) := fun m q o f hf => by
  obtain ⟨k, rfl⟩ : ∃ k, f = k + 1 := ⟨f - 1, by simp at hf; omega⟩
  rw [List.cons_append]
  conv => lhs; unfold scanF
  have hd : ((x ++ 10 :: g) ++ m).dropWhile (fun d => d != 10) = 10 :: (g ++ m) ∧ ((x ++ 10 :: g) ++ m).takeWhile (fun d => d != 10) = x := by
    rw [List.append_assoc]
    clear hf
    induction x with
    | nil => simp
    | cons a x ih =>
      rw [List.all_cons, Bool.and_eq_true] at hx
      have := ih hx.2
      rw [List.cons_append, List.dropWhile_cons, List.takeWhile_cons, if_pos hx.1, if_pos hx.1, this.1, this.2]
      exact ⟨rfl, rfl⟩
  have e : stepT 59 ((x ++ 10 :: g) ++ m) q = .ok (10 :: (g ++ m), advs q (59 :: x), []) := by
    unfold stepT
    rw [if_neg (by decide), if_pos rfl]
    rw [hd.1, hd.2]
  rw [e]
  simp only [List.append_nil]
  have h2 := skip_bl (c := 10) (by decide) h m (advs q (59 :: x)) o k (by simp at hf ⊢; omega)
  rw [List.cons_append] at h2
  rw [h2]
  congr 1
  rw [advs_cons, advs_cons, advs_cons, advs_append, advs_cons]
def fillT : List (List UInt8) := [[32], [9], [10], [59, 32, 40, 120, 32, 34, 32, 121, 10], [32, 32, 10, 32]]
theorem skip_fill {g : List UInt8} (h : g ∈ fillT) : Skips g := by
  simp only [fillT, List.mem_cons, List.not_mem_nil, or_false] at h
  rcases h with rfl | rfl | rfl | rfl | rfl
  · exact skip_bl rfl skip_nil
  · exact skip_bl rfl skip_nil
  · exact skip_bl rfl skip_nil
  · exact skip_rem (x := [32, 40, 120, 32, 34, 32, 121]) rfl skip_nil
  · exact skip_bl rfl (skip_bl rfl (skip_bl rfl (skip_bl rfl skip_nil)))
theorem fill_end {g : List UInt8} (h : g ∈ fillT) : ∃ c r, g = c :: r ∧ isEnd c = true := by
  simp only [fillT, List.mem_cons, List.not_mem_nil, or_false] at h
  rcases h with rfl | rfl | rfl | rfl | rfl <;> exact ⟨_, _, rfl, rfl⟩
theorem itoa_dig (n : Int) : ∀ c ∈ Lib.itoa n, isEnd c = false := by
  have hd : ∀ c : UInt8, isDig c = true → isEnd c = false := fun c h => by
    rw [isDig_iff] at h
    unfold isEnd
    simp only [Bool.or_eq_false_iff, beq_eq_false_iff_ne]
    have := h.1; have := h.2
    refine ⟨⟨⟨⟨⟨⟨?_, ?_⟩, ?_⟩, ?_⟩, ?_⟩, ?_⟩, ?_⟩ <;> (rintro rfl; revert h; decide)
  intro c hc
  have hall : ∀ u, ∀ c ∈ Lib.decDigits u, isDig c = true := fun u => List.all_eq_true.1 (digits_all u)
  unfold Lib.itoa at hc
  split at hc
  · rcases List.mem_cons.1 hc with rfl | hc
    · decide
    · exact hd c (hall _ c hc)
  · exact hd c (hall _ c hc)
theorem stepT_word {c : UInt8} {r m : List UInt8} {q : Pos} {k : Nat} {n : Int} {t : List UInt8} (h : ∀ d ∈ c :: r, isEnd d = false) (hm : ∀ d s, m = d :: s → isEnd d = true) (hw : wordT (c :: r) = some (k, n, t)) :
    stepT c (r ++ m) q = .ok (m, advs q (c :: r), [⟨k, q.1, q.2, n, t⟩]) := by
  have hc := h c (List.mem_cons_self ..)
  have hr : ∀ d ∈ r, isEnd d = false := fun d hd => h d (List.mem_cons_of_mem _ hd)
  have hd : (r ++ m).dropWhile (fun d => !isEnd d) = m ∧ (r ++ m).takeWhile (fun d => !isEnd d) = r := by
    clear hw h hc
    induction r with
    | nil =>
      cases m with
      | nil => simp
      | cons d s => have := hm d s rfl; simp [this]
    | cons a x ih =>
      have ha := hr a (List.mem_cons_self ..)
      have := ih (fun d hd => hr d (List.mem_cons_of_mem _ hd))
      simp [ha, this]
  unfold isEnd at hc
  simp only [Bool.or_eq_false_iff, beq_eq_false_iff_ne] at hc
  obtain ⟨⟨⟨⟨⟨⟨h1, h2⟩, h3⟩, h4⟩, h5⟩, h6⟩, h7⟩ := hc
  unfold stepT
  rw [if_neg (by simp [isBl, h1, h2, h3]), if_neg h7, if_neg h4, if_neg h5, if_neg h6, hd.1, hd.2, hw]
/-- A token that is written is read. -/
theorem step_spell {t : Tok} (h : Good t) {m : List UInt8} (hm : ∀ d s, m = d :: s → isEnd d = true) (q : Pos) :
    ∃ c r, spellT t = c :: r ∧ stepT c (r ++ m) q = .ok (m, advs q (spellT t), [wantT t q]) := by
  cases h with
  | open_ l c => exact ⟨40, [], rfl, rfl⟩
  | close l c => exact ⟨41, [], rfl, rfl⟩
  | int l c n h1 h2 =>
    have hne : Lib.itoa n ≠ [] := by
      unfold Lib.itoa
      split
      · simp
      · exact digits_ne _
    cases hs : Lib.itoa n with
    | nil => exact absurd hs hne
    | cons a r =>
      refine ⟨a, r, hs, ?_⟩
      have hw : wordT (a :: r) = some (2, n, []) := by rw [← hs]; unfold wordT; rw [readF_itoa h1 h2, if_pos rfl]
      have := stepT_word (q := q) (fun d hd => itoa_dig n d (by rw [hs]; exact hd)) hm hw
      rw [this]
      show _ = Except.ok (m, advs q (Lib.itoa n), _)
      rw [hs]
      rfl
  | float l c tt ht =>
    refine ⟨48, [46, 53], rfl, ?_⟩
    exact stepT_word (q := q) (by decide) hm word_half
  | str l c tt ht =>
    refine ⟨34, hxs tt ++ [34], rfl, ?_⟩
    have e : stepT 34 (hxs tt ++ [34] ++ m) q = match strT q (hxs tt ++ [34] ++ m).length (hxs tt ++ [34] ++ m) (adv q 34) [] with
      | .error e => .error e
      | .ok (b, r', p') => .ok (r', p', [⟨4, q.1, q.2, 0, b⟩]) := rfl
    rw [e]
    have hl : tt.length < (hxs tt ++ [34] ++ m).length := by
      have := hxs_len tt
      rw [List.length_append, List.length_append, List.length_singleton]
      omega
    have h3 := strT_hxs q (34 :: m) tt (hxs tt ++ [34] ++ m).length (adv q 34) [] (by simp)
    rw [List.append_assoc, List.singleton_append] at *
    rw [h3]
    obtain ⟨g, hg⟩ : ∃ g, (hxs tt ++ 34 :: m).length - tt.length = g + 1 := ⟨(hxs tt ++ 34 :: m).length - tt.length - 1, by omega⟩
    rw [hg]
    unfold strT
    rw [if_pos rfl, List.nil_append, if_neg (by omega)]
    have ha : ∀ (l : List UInt8) (p : Pos), advs p (hxs l) = (p.1, p.2 + 4 * l.length) := fun l => by
      induction l with
      | nil => intro p; rfl
      | cons a l ih =>
        intro p
        show advs p (hx a ++ hxs l) = _
        rw [advs_append, hx_adv, ih]
        simp only [List.length_cons, Prod.mk.injEq, true_and]
        omega
    have e2 : spellT ⟨4, l, c, 0, tt⟩ = 34 :: (hxs tt ++ [34]) := rfl
    rw [e2, advs_cons, advs_append, ha]
    rfl
  | word k l c tt hk hw hne hall =>
    have e : spellT ⟨k, l, c, 0, tt⟩ = tt := by rcases hk with rfl | rfl <;> rfl
    have e2 : wantT ⟨k, l, c, 0, tt⟩ q = ⟨k, q.1, q.2, 0, tt⟩ := by rcases hk with rfl | rfl <;> rfl
    cases tt with
    | nil => exact absurd rfl hne
    | cons a r =>
      refine ⟨a, r, e, ?_⟩
      rw [e, e2]
      exact stepT_word (q := q) (fun d hd => by simpa using List.all_eq_true.1 hall d hd) hm hw
/-- All that is written: what stands ahead of each token, and the token. -/
def pieces : List (List UInt8 × Tok) → List UInt8
  | [] => []
  | (g, t) :: l => g ++ spellT t ++ pieces l
def wants : List (List UInt8 × Tok) → Pos → List Tok
  | [], _ => []
  | (g, t) :: l, q => wantT t (advs q g) :: wants l (advs q (g ++ spellT t))
theorem scan_pieces : ∀ (l : List (List UInt8 × Tok)) (q : Pos) (o : List Tok) (f : Nat), (∀ x ∈ l, x.1 ∈ fillT ∧ Good x.2) → (pieces l ++ [10, 59]).length ≤ f → scanF f (pieces l ++ [10, 59]) q o = .ok (o ++ wants l q)
  | [], q, o, f, _, hf => by
    rw [show pieces [] = [] from rfl, List.nil_append] at hf ⊢
    have e1 : stepT 10 [59] q = .ok ([59], adv q 10, []) := rfl
    have e2 : stepT 59 [] (adv q 10) = .ok ([], advs (adv q 10) [59], []) := rfl
    rw [scanF_fuel f (0 + 1 + 1) _ _ _ hf (by simp)]
    simp only [scanF, e1, e2, wants, List.append_nil]
  | (g, t) :: l, q, o, f, h, hf => by
    obtain ⟨hg, ht⟩ := h _ (List.mem_cons_self ..)
    have hl : ∀ x ∈ l, x.1 ∈ fillT ∧ Good x.2 := fun x hx => h x (List.mem_cons_of_mem _ hx)
    have e : pieces ((g, t) :: l) ++ [10, 59] = g ++ (spellT t ++ (pieces l ++ [10, 59])) := by simp [pieces]
    have hm : ∀ d s, pieces l ++ [10, 59] = d :: s → isEnd d = true := by
      cases l with
      | nil => intro d s h; cases h; rfl
      | cons x l' =>
        intro d s h
        obtain ⟨g', t'⟩ := x
        obtain ⟨c', r', hg', hc'⟩ := fill_end (hl _ (List.mem_cons_self ..)).1
        simp only at hg'
        subst hg'
        simp only [pieces, List.cons_append, List.cons.injEq] at h
        rw [← h.1]; exact hc'
    rw [e] at hf ⊢
    rw [skip_fill hg _ _ _ _ hf]
    obtain ⟨c, r, hs, hst⟩ := step_spell ht hm (advs q g)
    rw [hs, List.cons_append, List.length_cons]
    conv => lhs; unfold scanF
    rw [hst]
    simp only
    rw [scan_pieces l _ _ _ hl (by simp), ← advs_append]
    simp [wants]
theorem scan_blanks (l : List (List UInt8 × Tok)) (h : ∀ x ∈ l, x.1 ∈ fillT ∧ Good x.2) : scanT (pieces l ++ [10, 59]) = .ok (wants l (1, 1)) := by
  unfold scanT
  rw [scan_pieces l _ _ _ h (Nat.le_refl _), List.nil_append]
theorem pieces_app (a b : List (List UInt8 × Tok)) : pieces (a ++ b) = pieces a ++ pieces b := by
  induction a with
  | nil => rfl
  | cons x a ih => obtain ⟨g, t⟩ := x; simp [pieces, ih]
theorem wants_app : ∀ (a b : List (List UInt8 × Tok)) (q : Pos), wants (a ++ b) q = wants a q ++ wants b (advs q (pieces a))
  | [], b, q => rfl
  | (g, t) :: a, b, q => by
    have e : pieces ((g, t) :: a) = (g ++ spellT t) ++ pieces a := rfl
    rw [List.cons_append, e, advs_append]
    show _ :: wants (a ++ b) _ = _
    rw [wants_app a b]
    rfl
theorem spell_len {t : Tok} (h : Good t) : (spellT t).length ≤ 4 * tlen t + 22 := by
  cases h with
  | open_ l c => simp [spellT]
  | close l c => simp [spellT]
  | int l c n h1 h2 =>
    have := Lib.itoa_length_le n (by omega) (by omega)
    show (Lib.itoa n).length ≤ _
    omega
  | float l c tt ht => simp [spellT]
  | str l c tt ht =>
    show (34 :: (hxs tt ++ [34])).length ≤ 4 * tt.length + 22
    have := hxs_len tt
    simp; omega
  | word k l c tt hk hw hne hall =>
    have e : spellT ⟨k, l, c, 0, tt⟩ = tt := by rcases hk with rfl | rfl <;> rfl
    have e2 : tlen ⟨k, l, c, 0, tt⟩ = tt.length := by rcases hk with rfl | rfl <;> rfl
    rw [e, e2]; omega
theorem pieces_len : ∀ (l : List (List UInt8 × Tok)), (∀ x ∈ l, x.1 ∈ fillT ∧ Good x.2) → (pieces l).length ≤ 31 * l.length + 4 * (l.map (fun x => tlen x.2)).sum
  | [], _ => by simp [pieces]
  | (g, t) :: l, h => by
    obtain ⟨hg, ht⟩ := h _ (List.mem_cons_self ..)
    have ih := pieces_len l (fun x hx => h x (List.mem_cons_of_mem _ hx))
    have h1 := spell_len ht
    have h2 : g.length ≤ 9 := by
      simp only [fillT, List.mem_cons, List.not_mem_nil, or_false] at hg
      rcases hg with rfl | rfl | rfl | rfl | rfl <;> decide
    simp only [pieces, List.length_append, List.length_cons, List.map_cons, List.sum_cons]
    simp only at h1
    omega
end Lx
end Go.Proofs.YtlailomhgipppaaGreatDoor
