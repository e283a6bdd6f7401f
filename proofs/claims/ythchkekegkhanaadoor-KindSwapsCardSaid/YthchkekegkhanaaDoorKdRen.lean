/- Types whose variables are renamed are shown alike: plain. -/
import Derived.Test.YthchkekegkhanaaDoorKdShown
namespace Go.Proofs.YthchkekegkhanaaDoor
open Go.RowKit Go.Maps
set_option linter.unusedVariables false

theorem mem_map_inj {f : Int → Int} {h : List Int} {n : Int} (hi : ∀ a, a ∈ h → f a = f n → a = n) : f n ∈ h.map f ↔ n ∈ h := by
  constructor
  · intro hm
    obtain ⟨a, ha, e⟩ := List.mem_map.1 hm
    rw [← hi a ha e]; exact ha
  · intro hm; exact List.mem_map.2 ⟨n, hm, rfl⟩
theorem idx_map_inj {f : Int → Int} {n : Int} : ∀ {h : List Int}, (∀ a, a ∈ h → f a = f n → a = n) → (h.map f).idxOf (f n) = h.idxOf n
  | [], _ => rfl
  | a :: h, hi => by
    rw [List.map_cons, List.idxOf_cons, List.idxOf_cons]
    by_cases e : a = n
    · subst e; simp
    · have e2 : ¬ f a = f n := fun e3 => e (hi a (by simp) e3)
      have e3 : (f a == f n) = false := by simpa using e2
      have e4 : (a == n) = false := by simpa using e
      rw [e3, e4, idx_map_inj fun b hb => hi b (by simp [hb])]
namespace Ty
/-- Each variable n named f n. -/
def ren (f : Int → Int) : Int → Ty := fun n => var (f n)
mutual
theorem vrs_ren (f : Int → Int) : ∀ (t : Ty) (h : List Int), (∀ a b, (a ∈ h ∨ has a t = true) → (b ∈ h ∨ has b t = true) → f a = f b → a = b) → vrs (sub (ren f) t) (h.map f) = (vrs t h).map f
  | var n, h, hi => by
    rw [sub, ren, vrs, vrs]
    have hm : f n ∈ h.map f ↔ n ∈ h := mem_map_inj fun a ha => hi a n (.inl ha) (.inr (by simp [has]))
    by_cases hn : n ∈ h
    · rw [if_pos (hm.2 hn), if_pos hn]
    · rw [if_neg (fun e => hn (hm.1 e)), if_neg hn, List.map_append]; rfl
  | con c l, h, hi => by
    rw [sub, vrs, vrs]
    exact vrss_ren f l h fun a b ha hb => hi a b (by rw [has]; exact ha) (by rw [has]; exact hb)
theorem vrss_ren (f : Int → Int) : ∀ (l : List Ty) (h : List Int), (∀ a b, (a ∈ h ∨ hass a l = true) → (b ∈ h ∨ hass b l = true) → f a = f b → a = b) → vrss (subs (ren f) l) (h.map f) = (vrss l h).map f
  | [], h, _ => by rw [subs, vrss, vrss]
  | t :: l, h, hi => by
    rw [subs, vrss, vrss, vrs_ren f t h (fun a b ha hb => hi a b (by rw [hass, Bool.or_eq_true]; rcases ha with e | e; exact .inl e; exact .inr (.inl e)) (by rw [hass, Bool.or_eq_true]; rcases hb with e | e; exact .inl e; exact .inr (.inl e)))]
    refine vrss_ren f l (vrs t h) fun a b ha hb => hi a b ?_ ?_
    · rw [hass, Bool.or_eq_true]
      rcases ha with e | e
      · rcases (vrs_mem a t h).1 e with e | e
        · exact .inl e
        · exact .inr (.inl e)
      · exact .inr (.inr e)
    · rw [hass, Bool.or_eq_true]
      rcases hb with e | e
      · rcases (vrs_mem b t h).1 e with e | e
        · exact .inl e
        · exact .inr (.inl e)
      · exact .inr (.inr e)
end
mutual
theorem shw_ren (f : Int → Int) {h : List Int} (hi : ∀ a b, a ∈ h → b ∈ h → f a = f b → a = b) : ∀ (t : Ty), (∀ n, has n t = true → n ∈ h) → shw (h.map f) (sub (ren f) t) = shw h t
  | var n, hm => by
    rw [sub, ren, shw, shw, idx_map_inj fun a ha => hi a n ha (hm n (by simp [has]))]
  | con c l, hm => by
    rw [sub, shw, shw, shws_ren f hi l fun n hn => hm n (by rw [has]; exact hn)]
    cases l with
    | nil => rw [subs]
    | cons t l => rw [subs]; rfl
theorem shws_ren (f : Int → Int) {h : List Int} (hi : ∀ a b, a ∈ h → b ∈ h → f a = f b → a = b) : ∀ (l : List Ty), (∀ n, hass n l = true → n ∈ h) → shws (h.map f) (subs (ren f) l) = shws h l
  | [], _ => by rw [subs, shws, shws]
  | t :: l, hm => by
    rw [subs, shws, shws, shw_ren f hi t fun n hn => hm n (by rw [hass, hn]; rfl), shws_ren f hi l fun n hn => hm n (by rw [hass, hn]; simp)]
end
theorem text_ren (f : Int → Int) (t : Ty) (hi : ∀ a b, has a t = true → has b t = true → f a = f b → a = b) : (t.sub (ren f)).text' = t.text' := by
  unfold text'
  have h1 := vrs_ren f t [] (fun a b ha hb => hi a b (by rcases ha with e | e; cases e; exact e) (by rcases hb with e | e; cases e; exact e))
  rw [List.map_nil] at h1
  have hv : ∀ n, n ∈ vrs t [] ↔ has n t = true := fun n => by rw [vrs_mem]; simp
  rw [h1]
  exact shw_ren f (fun a b ha hb => hi a b ((hv a).1 ha) ((hv b).1 hb)) t fun n hn => (hv n).2 hn
theorem sub_fix {s : Int → Ty} (t : Ty) : t.sub s = t → ∀ n, has n t = true → s n = var n := by
  refine ind (p := fun t => t.sub s = t → ∀ n, has n t = true → s n = var n) (fun m h n hn => ?_) (fun c l ih h n hn => ?_) t
  · have : m = n := by simpa [has] using hn
    subst this
    rwa [sub] at h
  · rw [sub_con] at h
    have hl : l.map (sub s) = l := by injection h
    rw [has] at hn
    obtain ⟨u, hu, hn⟩ := hass_mem.1 hn
    obtain ⟨i, hi, rfl⟩ := List.getElem_of_mem hu
    have := congrArg (fun x => x[i]?) hl
    simp [hi] at this
    exact ih _ hu this n hn
theorem sub_is_var {s : Int → Ty} {t : Ty} {n : Int} (h : t.sub s = var n) : ∃ m, t = var m ∧ s m = var n := by
  cases t with
  | var m => exact ⟨m, rfl, by rwa [sub] at h⟩
  | con c l => rw [sub] at h; cases h
/-- Each of two types is the other, renamed: they are shown alike. -/
theorem text_alike {s s' : Int → Ty} {t u : Ty} (h1 : t.sub s = u) (h2 : u.sub s' = t) : u.text' = t.text' := by
  have hf : ∀ n, has n t = true → ∃ m, s n = var m ∧ s' m = var n := fun n hn => by
    rw [← h1, sub_sub] at h2
    exact sub_is_var (sub_fix t h2 n hn)
  have hd : ∀ n, has n t = true → s n = var (s n).num := fun n hn => by
    obtain ⟨m, e, _⟩ := hf n hn
    rw [e]; rfl
  have e : u = t.sub (ren fun n => (s n).num) := by
    rw [← h1]
    exact sub_congr t fun n hn => hd n hn
  rw [e]
  refine text_ren _ t fun a b ha hb hab => ?_
  obtain ⟨m, e1, e2⟩ := hf a ha
  obtain ⟨m', e3, e4⟩ := hf b hb
  rw [e1, e3] at hab
  have : m = m' := hab
  subst this
  rw [e2] at e4
  injection e4
end Ty
/-- What two solvers know is the same, each of the other's renamed. -/
theorem shown_alike {s s' : Int → Ty} (h1 : Grows s s') (h2 : Grows s' s) : (allT s').text' = (allT s).text' := by
  have key : ∀ {s s' : Int → Ty}, Grows s s' → (allT s).sub s' = allT s' := fun {s s'} h => by
    unfold allT
    rw [Ty.sub_con]
    congr 1
    unfold nine
    rw [List.map_map]
    refine List.map_congr_left fun j _ => ?_
    exact h _
  exact Ty.text_alike (key h1) (key h2)

/-- The most general that makes pairs one. -/
structure MG (s : Int → Ty) (E : List (Ty × Ty)) : Prop where
  idem : Idem s
  one : ∀ x ∈ E, x.1.sub s = x.2.sub s
  most : ∀ θ : Int → Ty, (∀ x ∈ E, x.1.sub θ = x.2.sub θ) → Grows s θ
theorem MG.nil : MG Ty.var [] := ⟨idem_var, (fun x hx => by cases hx), fun θ _ => grows_var θ⟩
theorem MG.step {s : Int → Ty} {E : List (Ty × Ty)} (h : MG s E) {a b : Ty} (hu : (uni s a b).1 = 0) : MG (uni s a b).2 (E ++ [(a, b)]) := by
  have m := pairF_made 10001 (s, 10000) a b h.idem
  refine ⟨m.idem, fun x hx => ?_, fun θ hθ => m.most hu θ (h.most θ fun x hx => hθ x (by simp [hx])) (hθ (a, b) (by simp))⟩
  rcases List.mem_append.1 hx with e | e
  · exact m.grows.eq (h.one x e)
  · rw [List.mem_singleton] at e
    subst e
    exact m.one hu
theorem MG.same {s s' : Int → Ty} {E E' : List (Ty × Ty)} (h : MG s E) (h' : MG s' E') (hE : ∀ x ∈ E, (x.2, x.1) ∈ E') (hE' : ∀ x ∈ E', (x.2, x.1) ∈ E) : Grows s s' ∧ Grows s' s :=
  ⟨h.most s' fun x hx => (h'.one _ (hE x hx)).symm, h'.most s fun x hx => (h.one _ (hE' x hx)).symm⟩
end Go.Proofs.YthchkekegkhanaaDoor
