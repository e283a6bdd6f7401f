/- Types, what variables stand for, and what makes two types one: in plain words, no program in sight. -/

namespace Go.Proofs.YthchkekegkhanaaDoor

/-- A variable, or what a name makes of parts. -/
inductive Ty where
  | var (n : Int)
  | con (name : ByteArray) (kids : List Ty)

namespace Ty
mutual
/-- Types in the place of variables. -/
def sub (s : Int → Ty) : Ty → Ty
  | var n => s n
  | con c l => con c (subs s l)
def subs (s : Int → Ty) : List Ty → List Ty
  | [] => []
  | t :: l => sub s t :: subs s l
end
mutual
/-- How many parts. -/
def sz : Ty → Nat
  | var _ => 1
  | con _ l => 1 + szs l
def szs : List Ty → Nat
  | [] => 0
  | t :: l => sz t + szs l
end
mutual
/-- Is a variable in it? -/
def has (n : Int) : Ty → Bool
  | var m => m == n
  | con _ l => hass n l
def hass (n : Int) : List Ty → Bool
  | [] => false
  | t :: l => has n t || hass n l
end
theorem subs_map (s : Int → Ty) : ∀ l, subs s l = l.map (sub s)
  | [] => rfl
  | t :: l => by rw [subs, subs_map s l, List.map_cons]
theorem sub_con (s : Int → Ty) (c : ByteArray) (l : List Ty) : sub s (con c l) = con c (l.map (sub s)) := by rw [sub, subs_map]
theorem sz_pos : ∀ t : Ty, 1 ≤ t.sz
  | var _ => by rw [sz]; omega
  | con _ l => by rw [sz]; omega
theorem szs_mem {t : Ty} : ∀ {l : List Ty}, t ∈ l → t.sz ≤ szs l
  | [], h => by simp at h
  | u :: l, h => by
    rw [szs]
    rcases List.mem_cons.1 h with rfl | h
    · omega
    · have := szs_mem h; omega
theorem szs_len : ∀ l : List Ty, l.length ≤ szs l
  | [] => by simp
  | t :: l => by
    have := sz_pos t
    have := szs_len l
    rw [szs, List.length_cons]; omega
theorem hass_mem {n : Int} : ∀ {l : List Ty}, hass n l = true ↔ ∃ t ∈ l, has n t = true
  | [] => by simp [hass]
  | t :: l => by rw [hass, Bool.or_eq_true, hass_mem (l := l)]; simp

/-- Induction over types, for all and for rows. -/
theorem ind {p : Ty → Prop} (h1 : ∀ n, p (var n)) (h2 : ∀ c l, (∀ t ∈ l, p t) → p (con c l)) : ∀ t, p t := by
  intro t
  suffices h : ∀ k t, sz t ≤ k → p t from h _ t (Nat.le_refl _)
  intro k
  induction k with
  | zero => intro t ht; have := sz_pos t; omega
  | succ k ih =>
    intro t ht
    cases t with
    | var n => exact h1 n
    | con c l =>
      rw [sz] at ht
      exact h2 c l fun u hu => ih u (by have := szs_mem hu; omega)

theorem sub_congr {s s' : Int → Ty} (t : Ty) (h : ∀ n, has n t = true → s n = s' n) : t.sub s = t.sub s' := by
  revert h
  refine ind (p := fun t => (∀ n, has n t = true → s n = s' n) → t.sub s = t.sub s') ?_ ?_ t
  · intro n h; rw [sub, sub]; exact h n (by simp [has])
  · intro c l ih h
    rw [sub_con, sub_con]
    congr 1
    refine List.map_congr_left fun t ht => ih t ht fun n hn => h n ?_
    rw [has]; exact hass_mem.2 ⟨t, ht, hn⟩
theorem sub_var (t : Ty) : t.sub var = t := by
  refine ind (p := fun t => t.sub var = t) (fun n => by rw [sub]) (fun c l ih => ?_) t
  rw [sub_con]
  congr 1
  calc l.map (sub var) = l.map id := List.map_congr_left fun t ht => ih t ht
    _ = l := by simp
theorem sub_sub (s s' : Int → Ty) (t : Ty) : (t.sub s).sub s' = t.sub (fun n => (s n).sub s') := by
  refine ind (p := fun t => (t.sub s).sub s' = t.sub (fun n => (s n).sub s')) (fun n => by rw [sub, sub]) (fun c l ih => ?_) t
  rw [sub_con, sub_con, sub_con, List.map_map]
  congr 1
  exact List.map_congr_left fun t ht => ih t ht
theorem has_sub {s : Int → Ty} {m : Int} (t : Ty) : has m (t.sub s) = true ↔ ∃ n, has n t = true ∧ has m (s n) = true := by
  refine ind (p := fun t => has m (t.sub s) = true ↔ ∃ n, has n t = true ∧ has m (s n) = true) (fun n => ?_) (fun c l ih => ?_) t
  · rw [sub]
    constructor
    · intro h; exact ⟨n, by simp [has], h⟩
    · rintro ⟨k, hk, h⟩
      have : n = k := by simpa [has] using hk
      rw [this]; exact h
  · rw [sub_con, has, hass_mem]
    constructor
    · rintro ⟨u, hu, h⟩
      obtain ⟨t, ht, rfl⟩ := List.mem_map.1 hu
      obtain ⟨n, hn, hm⟩ := (ih t ht).1 h
      exact ⟨n, by rw [has]; exact hass_mem.2 ⟨t, ht, hn⟩, hm⟩
    · rintro ⟨n, hn, hm⟩
      rw [has] at hn
      obtain ⟨t, ht, hn⟩ := hass_mem.1 hn
      exact ⟨t.sub s, List.mem_map.2 ⟨t, ht, rfl⟩, (ih t ht).2 ⟨n, hn, hm⟩⟩

/-- One variable stands for a type. -/
def one (m : Int) (y : Ty) : Int → Ty := fun k => if k = m then y else var k
theorem sub_one_of_not {m : Int} {y t : Ty} (h : has m t = false) : t.sub (one m y) = t := by
  rw [sub_congr (s' := var) t (fun n hn => ?_), sub_var]
  unfold one
  rw [if_neg]
  rintro rfl
  rw [hn] at h; cases h
end Ty

/-- What variables stand for, all the way down: 'ext s m y' when m stands for y, too. -/
def ext (s : Int → Ty) (m : Int) (y : Ty) : Int → Ty := fun k => (s k).sub (Ty.one m y)

/-- All the way down. -/
def Idem (s : Int → Ty) : Prop := ∀ n, (s n).sub s = s n
theorem idem_var : Idem Ty.var := fun n => by rw [Ty.sub]
theorem Idem.sub {s : Int → Ty} (h : Idem s) (t : Ty) : (t.sub s).sub s = t.sub s := by
  rw [Ty.sub_sub]; exact Ty.sub_congr t fun n _ => h n
/-- A variable that is left stands for itself. -/
theorem Idem.free {s : Int → Ty} (h : Idem s) {t : Ty} {m : Int} (hm : Ty.has m (t.sub s) = true) : s m = .var m := by
  have key : ∀ u : Ty, u.sub s = u → Ty.has m u = true → s m = .var m := by
    intro u
    refine Ty.ind (p := fun u => u.sub s = u → Ty.has m u = true → s m = .var m) (fun n hu hn => ?_) (fun c l ih hu hn => ?_) u
    · have : n = m := by simpa [Ty.has] using hn
      subst this
      rwa [Ty.sub] at hu
    · rw [Ty.sub_con] at hu
      rw [Ty.has] at hn
      obtain ⟨t, ht, hn⟩ := Ty.hass_mem.1 hn
      refine ih t ht ?_ hn
      have hl : l.map (Ty.sub s) = l := by injection hu
      have hi := List.getElem_of_mem ht
      obtain ⟨i, hi, rfl⟩ := hi
      have := congrArg (fun x => x[i]?) hl
      simp [hi] at this
      exact this
  exact key _ (h.sub t) hm
theorem ext_idem {s : Int → Ty} (h : Idem s) {m : Int} {y : Ty} (hm : s m = .var m) (hy : y.sub s = y) (hn : Ty.has m y = false) : Idem (ext s m y) := by
  intro n
  unfold ext
  rw [Ty.sub_sub]
  refine Ty.sub_congr _ fun k hk => ?_
  have hk' : s k = .var k := h.free (t := .var n) (by rw [Ty.sub]; exact hk)
  unfold Ty.one
  by_cases e : k = m
  · subst e
    rw [if_pos rfl]
    have : y.sub (fun j => (s j).sub (Ty.one k y)) = y := by
      rw [← Ty.sub_sub, hy]
      exact Ty.sub_one_of_not hn
    exact this
  · rw [if_neg e, Ty.sub, hk', Ty.sub]
    exact if_neg e

/-- One more variable: s' is what s is, and more. -/
def Grows (s s' : Int → Ty) : Prop := ∀ n, (s n).sub s' = s' n
theorem Grows.refl {s : Int → Ty} (h : Idem s) : Grows s s := h
theorem Grows.sub {s s' : Int → Ty} (h : Grows s s') (t : Ty) : (t.sub s).sub s' = t.sub s' := by
  rw [Ty.sub_sub]; exact Ty.sub_congr t fun n _ => h n
theorem Grows.trans {s s' s'' : Int → Ty} (h : Grows s s') (h' : Grows s' s'') : Grows s s'' := fun n => by
  rw [← h' n, ← h n, h'.sub]
theorem ext_grows {s : Int → Ty} (h : Idem s) {m : Int} {y : Ty} : Grows s (ext s m y) := fun n => by
  unfold ext
  rw [← Ty.sub_sub, h n]
theorem grows_var (s : Int → Ty) : Grows Ty.var s := fun n => by rw [Ty.sub]
theorem Grows.eq {s s' : Int → Ty} (h : Grows s s') {x y : Ty} (e : x.sub s = y.sub s) : x.sub s' = y.sub s' := by
  rw [← h.sub x, ← h.sub y, e]

/-! What makes two types one -/

abbrev St := (Int → Ty) × Nat
def bindF (s : Int → Ty) (r : Nat) (m : Int) (y : Ty) : Int × St :=
  if 1000 < y.sz then (4, s, r) else if y.has m then (11, s, r) else (0, ext s m y, r)
def pairsF (g : St → Ty → Ty → Int × St) : St → List Ty → List Ty → Int × St
  | z, a :: as, b :: bs => if (g z a b).1 = 0 then pairsF g (g z a b).2 as bs else g z a b
  | z, [], _ => (0, z)
  | z, _ :: _, [] => (0, z)
def pairT (g : St → Ty → Ty → Int × St) (s : Int → Ty) (r : Nat) : Ty → Ty → Int × St
  | .var m, .var n => if m = n then (0, s, r) else bindF s r m (.var n)
  | .var m, .con d l => bindF s r m (.con d l)
  | .con c l, .var n => bindF s r n (.con c l)
  | .con c l, .con d l' => if c = d ∧ l.length = l'.length then pairsF g (s, r) l l' else (11, s, r)
/-- Both are one: an error's number, what variables stand for, how many pairs may be looked at still. -/
def pairF : Nat → St → Ty → Ty → Int × St
  | 0, z, _, _ => (4, z)
  | _ + 1, (s, 0), _, _ => (4, s, 0)
  | f + 1, (s, r + 1), a, b => pairT (pairF f) s r (a.sub s) (b.sub s)

/-- What is said of a step that makes two one. -/
structure Steps (s : Int → Ty) (e : Int) (s' : Int → Ty) : Prop where
  idem : Idem s'
  grows : Grows s s'

theorem bindF_steps {s : Int → Ty} (h : Idem s) {r : Nat} {m : Int} {y : Ty} (hm : s m = .var m) (hy : y.sub s = y) : Idem (bindF s r m y).2.1 ∧ Grows s (bindF s r m y).2.1 ∧ (bindF s r m y).2.2 = r ∧ ((bindF s r m y).1 = 0 → (bindF s r m y).2.1 m = y.sub (bindF s r m y).2.1) := by
  unfold bindF
  split
  · exact ⟨h, .refl h, rfl, fun e => by cases e⟩
  · split
    · exact ⟨h, .refl h, rfl, fun e => by cases e⟩
    · rename_i hn
      have hn' : y.has m = false := by simpa using hn
      refine ⟨ext_idem h hm hy hn', ext_grows h, rfl, fun _ => ?_⟩
      show ext s m y m = y.sub (ext s m y)
      have e1 : ext s m y m = y := by unfold ext; rw [hm, Ty.sub]; unfold Ty.one; rw [if_pos rfl]
      have e2 : y.sub (ext s m y) = y := by
        unfold ext
        rw [← Ty.sub_sub, hy]; exact Ty.sub_one_of_not hn'
      rw [e1, e2]

/-- Behind a step: what it is, that it has made both one, and that it has said no more than that. -/
structure Made (z : St) (a b : Ty) (r : Int × St) : Prop where
  idem : Idem r.2.1
  grows : Grows z.1 r.2.1
  left : r.2.2 ≤ z.2
  one : r.1 = 0 → a.sub r.2.1 = b.sub r.2.1
  most : r.1 = 0 → ∀ θ : Int → Ty, Grows z.1 θ → a.sub θ = b.sub θ → Grows r.2.1 θ

theorem bind_most {s : Int → Ty} {r : Nat} {m : Int} {y : Ty} {θ : Int → Ty} (hθ : Grows s θ) (e : θ m = y.sub θ) : Grows (bindF s r m y).2.1 θ := by
  unfold bindF
  split
  · exact hθ
  · split
    · exact hθ
    · intro n
      show (ext s m y n).sub θ = θ n
      unfold ext
      rw [Ty.sub_sub, ← hθ n]
      refine Ty.sub_congr _ fun k _ => ?_
      unfold Ty.one
      by_cases hk : k = m
      · subst hk; rw [if_pos rfl, e]
      · rw [if_neg hk, Ty.sub]

theorem pairsF_made {g : St → Ty → Ty → Int × St} {z0 : St} (hg : ∀ z a b, Idem z.1 → z.2 ≤ z0.2 → Made z a b (g z a b)) : ∀ (l l' : List Ty) (z : St), Idem z.1 → z.2 ≤ z0.2 → l.length = l'.length →
    Idem (pairsF g z l l').2.1 ∧ Grows z.1 (pairsF g z l l').2.1 ∧ (pairsF g z l l').2.2 ≤ z.2 ∧ ((pairsF g z l l').1 = 0 → l.map (Ty.sub (pairsF g z l l').2.1) = l'.map (Ty.sub (pairsF g z l l').2.1)) ∧
    ((pairsF g z l l').1 = 0 → ∀ θ : Int → Ty, Grows z.1 θ → l.map (Ty.sub θ) = l'.map (Ty.sub θ) → Grows (pairsF g z l l').2.1 θ)
  | [], [], z, h, _, _ => by rw [pairsF]; exact ⟨h, .refl h, Nat.le_refl _, fun _ => rfl, fun _ θ hθ _ => hθ⟩
  | [], _ :: _, _, _, _, hl => by simp at hl
  | _ :: _, [], _, _, _, hl => by simp at hl
  | a :: as, b :: bs, z, h, hz, hl => by
    have m := hg z a b h hz
    rw [pairsF]
    split
    · rename_i he
      obtain ⟨h1, h2, h3, h4, h5⟩ := pairsF_made hg as bs (g z a b).2 m.idem (Nat.le_trans m.left hz) (by simpa using hl)
      refine ⟨h1, m.grows.trans h2, Nat.le_trans h3 m.left, fun e => ?_, fun e θ hθ hs => ?_⟩
      · rw [List.map_cons, List.map_cons, h4 e, h2.eq (m.one he)]
      · rw [List.map_cons, List.map_cons] at hs
        injection hs with hs1 hs2
        exact h5 e θ (m.most he θ hθ hs1) hs2
    · rename_i he
      exact ⟨m.idem, m.grows, m.left, fun e => absurd e he, fun e => absurd e he⟩

theorem pairF_made : ∀ (f : Nat) (z : St) (a b : Ty), Idem z.1 → Made z a b (pairF f z a b)
  | 0, z, a, b, h => ⟨h, .refl h, Nat.le_refl _, (fun e => by cases e), (fun e => by cases e)⟩
  | f + 1, (s, 0), a, b, h => ⟨h, .refl h, Nat.le_refl _, (fun e => by cases e), (fun e => by cases e)⟩
  | f + 1, (s, r + 1), a, b, h => by
    have h' : Idem s := h
    have ea := h'.sub a
    have eb := h'.sub b
    have fa := fun m (hm : Ty.has m (a.sub s) = true) => h'.free (t := a) hm
    have fb := fun m (hm : Ty.has m (b.sub s) = true) => h'.free (t := b) hm
    rw [pairF]
    have key : ∀ x y : Ty, a.sub s = x → b.sub s = y → Made (s, r + 1) a b (pairT (pairF f) s r x y) := by
      intro x y hx hy
      rw [hx] at ea fa
      rw [hy] at eb fb
      have conv : ∀ {θ : Int → Ty}, Grows s θ → (a.sub θ = x.sub θ ∧ b.sub θ = y.sub θ) := fun hθ => ⟨by rw [← hx, hθ.sub], by rw [← hy, hθ.sub]⟩
      cases x with
      | var m =>
        have hm : s m = .var m := fa m (by simp [Ty.has])
        cases y with
        | var n =>
          rw [pairT]
          split
          · rename_i hmn
            subst hmn
            exact ⟨h', .refl h', by simp, fun _ => by rw [hx, hy], fun _ θ hθ _ => hθ⟩
          · obtain ⟨b1, b2, b3, b4⟩ := bindF_steps (r := r) h' (m := m) (y := .var n) hm eb
            exact ⟨b1, b2, by rw [b3]; simp, fun e => by rw [(conv b2).1, (conv b2).2, Ty.sub, b4 e], fun e θ hθ hs => bind_most hθ (by rw [(conv hθ).1, (conv hθ).2, Ty.sub] at hs; exact hs)⟩
        | con d l =>
          rw [pairT]
          obtain ⟨b1, b2, b3, b4⟩ := bindF_steps (r := r) h' (m := m) (y := .con d l) hm eb
          exact ⟨b1, b2, by rw [b3]; simp, fun e => by rw [(conv b2).1, (conv b2).2, Ty.sub, b4 e], fun e θ hθ hs => bind_most hθ (by rw [(conv hθ).1, (conv hθ).2, Ty.sub] at hs; exact hs)⟩
      | con c l =>
        cases y with
        | var n =>
          have hm : s n = .var n := fb n (by simp [Ty.has])
          rw [pairT]
          obtain ⟨b1, b2, b3, b4⟩ := bindF_steps (r := r) h' (m := n) (y := .con c l) hm ea
          refine ⟨b1, b2, by rw [b3]; simp, fun e => ?_, fun e θ hθ hs => bind_most hθ ?_⟩
          · rw [(conv b2).1, (conv b2).2]
            show (Ty.con c l).sub _ = (bindF s r n (.con c l)).2.1 n
            rw [b4 e]
          · rw [(conv hθ).1, (conv hθ).2] at hs
            exact hs.symm
        | con d l' =>
          rw [pairT]
          split
          · rename_i hc
            obtain ⟨rfl, hl⟩ := hc
            obtain ⟨h1, h2, h3, h4, h5⟩ := pairsF_made (g := pairF f) (z0 := (s, r)) (fun z a b hz _ => pairF_made f z a b hz) l l' (s, r) h' (Nat.le_refl _) hl
            refine ⟨h1, h2, by have : _ ≤ r := h3; simp; omega, fun e => ?_, fun e θ hθ hs => h5 e θ hθ ?_⟩
            · rw [(conv h2).1, (conv h2).2, Ty.sub_con, Ty.sub_con, h4 e]
            · rw [(conv hθ).1, (conv hθ).2, Ty.sub_con, Ty.sub_con] at hs
              injection hs
          · exact ⟨h', .refl h', by simp, (fun e => by cases e), (fun e => by cases e)⟩
    exact key _ _ rfl rfl
end Go.Proofs.YthchkekegkhanaaDoor
/- What variables were bound to, one by one, and what they come to all the way down; no program in sight. -/
namespace Go.Proofs.YthchkekegkhanaaDoor

/-- So many steps serve to go through a type in full. -/
def ends : Nat → (Int → Option Ty) → Ty → Prop
  | 0, _, _ => False
  | k + 1, σ, .var n => match σ n with | none => True | some t => ends k σ t
  | k + 1, σ, .con _ l => ∀ t ∈ l, ends k σ t
theorem ends_free {k : Nat} {σ : Int → Option Ty} {n : Int} (h : σ n = none) : ends (k + 1) σ (.var n) := by rw [ends, h]; trivial
theorem ends_step {k : Nat} {σ : Int → Option Ty} {n : Int} {t : Ty} (h : σ n = some t) : ends (k + 1) σ (.var n) ↔ ends k σ t := by rw [ends, h]
theorem ends_con {k : Nat} {σ : Int → Option Ty} {c : ByteArray} {l : List Ty} : ends (k + 1) σ (.con c l) ↔ ∀ t ∈ l, ends k σ t := by rw [ends]
theorem ends_up : ∀ {k : Nat} {σ : Int → Option Ty} {t : Ty}, ends k σ t → ends (k + 1) σ t
  | 0, _, _, h => by rw [ends] at h; exact h.elim
  | k + 1, σ, .var n, h => by
    cases hs : σ n with
    | none => exact ends_free hs
    | some t => rw [ends_step hs] at h ⊢; exact ends_up h
  | k + 1, σ, .con c l, h => by
    rw [ends_con] at h ⊢
    exact fun t ht => ends_up (h t ht)
theorem ends_mono {k j : Nat} {σ : Int → Option Ty} {t : Ty} (h : ends k σ t) (hj : k ≤ j) : ends j σ t := by
  obtain ⟨d, rfl⟩ := Nat.exists_eq_add_of_le hj
  induction d with
  | zero => exact h
  | succ d ih => exact ends_up (ih (by omega))
theorem ends_row {σ : Int → Option Ty} : ∀ {l : List Ty}, (∀ t ∈ l, ∃ k, ends k σ t) → ∃ k, ∀ t ∈ l, ends k σ t
  | [], _ => ⟨0, fun t h => by simp at h⟩
  | t :: l, h => by
    obtain ⟨k, hk⟩ := h t (by simp)
    obtain ⟨j, hj⟩ := ends_row (l := l) fun u hu => h u (by simp [hu])
    refine ⟨k + j, fun u hu => ?_⟩
    rcases List.mem_cons.1 hu with rfl | hu
    · exact ends_mono hk (by omega)
    · exact ends_mono (hj u hu) (by omega)

/-- σ: what each variable was bound to; s: what it stands for, all the way down. -/
structure Sol (σ : Int → Option Ty) (s : Int → Ty) : Prop where
  idem : Idem s
  free : ∀ n, σ n = none → s n = .var n
  step : ∀ n t, σ n = some t → s n = t.sub s
  ends : ∀ n, ∃ k, ends k σ (.var n)

theorem sol_nil : Sol (fun _ => none) Ty.var := ⟨idem_var, fun _ _ => rfl, (fun _ _ h => by cases h), fun n => ⟨1, ends_free rfl⟩⟩
section
variable {σ : Int → Option Ty} {s : Int → Ty}
theorem Sol.all (h : Sol σ s) (t : Ty) : ∃ k, Go.Proofs.YthchkekegkhanaaDoor.ends k σ t := by
  refine Ty.ind (p := fun t => ∃ k, Go.Proofs.YthchkekegkhanaaDoor.ends k σ t) (fun n => h.ends n) (fun c l ih => ?_) t
  obtain ⟨k, hk⟩ := ends_row ih
  exact ⟨k + 1, ends_con.2 hk⟩

theorem ends_keep (h : Sol σ s) {m : Int} {u : Ty} (hm : σ m = none) : ∀ {k : Nat} {t : Ty}, ends k σ t → Ty.has m (t.sub s) = false → ends k (fun j => if j = m then some u else σ j) t
  | 0, _, he, _ => by rw [ends] at he; exact he.elim
  | k + 1, .var n, he, hn => by
    by_cases hnm : n = m
    · subst hnm
      rw [Ty.sub, h.free n hm] at hn
      simp [Ty.has] at hn
    · cases hs : σ n with
      | none => exact ends_free (by simp [hnm, hs])
      | some t =>
        rw [ends_step hs] at he
        rw [ends_step (t := t) (by simp [hnm, hs])]
        refine ends_keep h hm he ?_
        rw [Ty.sub, h.step n t hs] at hn
        exact hn
  | k + 1, .con c l, he, hn => by
    rw [ends_con] at he ⊢
    intro t ht
    refine ends_keep h hm (he t ht) ?_
    rw [Ty.sub_con, Ty.has] at hn
    cases hc : Ty.has m (t.sub s) with
    | false => rfl
    | true =>
      have : Ty.hass m (l.map (Ty.sub s)) = true := Ty.hass_mem.2 ⟨_, List.mem_map.2 ⟨t, ht, rfl⟩, hc⟩
      rw [hn] at this; cases this
theorem ends_more {m : Int} {u : Ty} {K : Nat} (hu : ends K (fun j => if j = m then some u else σ j) u) : ∀ {k : Nat} {t : Ty}, ends k σ t → ends (k + K) (fun j => if j = m then some u else σ j) t
  | 0, _, he => by rw [ends] at he; exact he.elim
  | k + 1, .var n, he => by
    rw [Nat.add_right_comm]
    by_cases hnm : n = m
    · subst hnm
      rw [ends_step (t := u) (by simp)]
      exact ends_mono hu (by omega)
    · cases hs : σ n with
      | none => exact ends_free (by simp [hnm, hs])
      | some t =>
        rw [ends_step hs] at he
        rw [ends_step (t := t) (by simp [hnm, hs])]
        exact ends_more hu he
  | k + 1, .con c l, he => by
    rw [Nat.add_right_comm]
    rw [ends_con] at he ⊢
    exact fun t ht => ends_more hu (he t ht)

/-- A variable that is left is bound. -/
theorem Sol.bind (h : Sol σ s) {m : Int} {u : Ty} (hm : σ m = none) (hn : Ty.has m (u.sub s) = false) : Sol (fun j => if j = m then some u else σ j) (ext s m (u.sub s)) := by
  have hsm := h.free m hm
  refine ⟨ext_idem h.idem hsm (h.idem.sub u) hn, fun n hf => ?_, fun n t ht => ?_, fun n => ?_⟩
  · by_cases hnm : n = m
    · simp [hnm] at hf
    · simp [hnm] at hf
      unfold ext
      rw [h.free n hf, Ty.sub]
      unfold Ty.one
      rw [if_neg hnm]
  · by_cases hnm : n = m
    · subst hnm
      simp at ht
      subst ht
      unfold ext
      rw [hsm, Ty.sub, ← Ty.sub_sub, Ty.sub_one_of_not hn]
      unfold Ty.one
      rw [if_pos rfl]
    · simp [hnm] at ht
      unfold ext
      rw [h.step n t ht, Ty.sub_sub]
  · obtain ⟨K, hK⟩ := h.all u
    obtain ⟨k, hk⟩ := h.ends n
    exact ⟨k + K, ends_more (ends_keep h hm hK hn) hk⟩
end
end Go.Proofs.YthchkekegkhanaaDoor
