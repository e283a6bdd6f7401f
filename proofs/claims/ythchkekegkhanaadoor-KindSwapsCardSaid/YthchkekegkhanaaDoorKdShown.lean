/- What the variables from 1 to 9 stand for, in one text. -/
import Derived.Test.YthchkekegkhanaaDoorKdTwo
namespace Go.Proofs.YthchkekegkhanaaDoor
open Go.RowKit Go.Maps
set_option linter.unusedVariables false

namespace Ty
/-- Short names, variables from 1 to 9. -/
def nice (t : Ty) : Prop := t.short ∧ ∀ n, t.has n = true → 1 ≤ n ∧ n ≤ 9
theorem shorts_iff : ∀ {l : List Ty}, shorts l ↔ ∀ t ∈ l, t.short
  | [] => by rw [shorts]; simp
  | t :: l => by rw [shorts, shorts_iff]; simp
theorem nice_con {c : ByteArray} {l : List Ty} : nice (.con c l) ↔ c.size ≤ 100 ∧ ∀ t ∈ l, t.nice := by
  unfold nice
  rw [short, shorts_iff]
  constructor
  · rintro ⟨⟨h1, h2⟩, h3⟩
    exact ⟨h1, fun t ht => ⟨h2 t ht, fun n hn => h3 n (by rw [has]; exact hass_mem.2 ⟨t, ht, hn⟩)⟩⟩
  · rintro ⟨h1, h2⟩
    refine ⟨⟨h1, fun t ht => (h2 t ht).1⟩, fun n hn => ?_⟩
    rw [has] at hn
    obtain ⟨t, ht, hn⟩ := hass_mem.1 hn
    exact (h2 t ht).2 n hn
theorem nice_var {n : Int} : nice (.var n) ↔ 1 ≤ n ∧ n ≤ 9 := by
  unfold nice
  rw [short]
  constructor
  · intro h; exact h.2 n (by simp [has])
  · intro h
    refine ⟨trivial, fun m hm => ?_⟩
    have : n = m := by simpa [has] using hm
    rw [← this]; exact h
theorem nice_sub {s : Int → Ty} (t : Ty) : (∀ n, t.has n = true → (s n).nice) → t.nice → (t.sub s).nice := by
  refine ind (p := fun t => (∀ n, t.has n = true → (s n).nice) → t.nice → (t.sub s).nice) (fun n h _ => ?_) (fun c l ih h ht => ?_) t
  · rw [sub]; exact h n (by simp [has])
  · rw [sub_con, nice_con]
    rw [nice_con] at ht
    refine ⟨ht.1, fun u hu => ?_⟩
    obtain ⟨t, ht', rfl⟩ := List.mem_map.1 hu
    exact ih t ht' (fun n hn => h n (by rw [has]; exact hass_mem.2 ⟨t, ht', hn⟩)) (ht.2 t ht')
end Ty
/-- .. of all that the variables from 1 to 9 stand for. -/
def NiceS (s : Int → Ty) : Prop := ∀ n, 1 ≤ n → n ≤ 9 → (s n).nice
theorem NiceS.var : NiceS Ty.var := fun n h1 h2 => Ty.nice_var.2 ⟨h1, h2⟩
theorem NiceS.sub {s : Int → Ty} (h : NiceS s) {t : Ty} (ht : t.nice) : (t.sub s).nice := Ty.nice_sub t (fun n hn => h n (ht.2 n hn).1 (ht.2 n hn).2) ht
theorem NiceS.bind {s : Int → Ty} (h : NiceS s) {r : Nat} {m : Int} {y : Ty} (hy : y.nice) : NiceS (bindF s r m y).2.1 := by
  unfold bindF
  split
  · exact h
  · split
    · exact h
    · intro n h1 h2
      show (ext s m y n).nice
      unfold ext
      refine Ty.nice_sub _ (fun k hk => ?_) (h n h1 h2)
      unfold Ty.one
      split
      · exact hy
      · exact Ty.nice_var.2 ((h n h1 h2).2 k hk)
theorem pairsF_nice {g : St → Ty → Ty → Int × St} (hg : ∀ z a b, NiceS z.1 → a.nice → b.nice → NiceS (g z a b).2.1) : ∀ (l l' : List Ty) (z : St), NiceS z.1 → (∀ t ∈ l, t.nice) → (∀ t ∈ l', t.nice) → NiceS (pairsF g z l l').2.1
  | [], _, z, h, _, _ => by rw [pairsF]; exact h
  | _ :: _, [], z, h, _, _ => by rw [pairsF]; exact h
  | a :: la, b :: lb, z, h, h1, h2 => by
    have h3 := hg z a b h (h1 a (by simp)) (h2 b (by simp))
    rw [pairsF]
    split
    · exact pairsF_nice hg la lb _ h3 (fun t ht => h1 t (by simp [ht])) (fun t ht => h2 t (by simp [ht]))
    · exact h3
theorem pairF_nice : ∀ (f : Nat) (z : St) (a b : Ty), NiceS z.1 → a.nice → b.nice → NiceS (pairF f z a b).2.1
  | 0, z, a, b, h, _, _ => h
  | f + 1, (s, 0), a, b, h, _, _ => h
  | f + 1, (s, r + 1), a, b, h, ha, hb => by
    have h' : NiceS s := h
    have hx := h'.sub ha
    have hy := h'.sub hb
    rw [pairF]
    generalize a.sub s = x at hx
    generalize b.sub s = y at hy
    cases x with
    | var m =>
      cases y with
      | var n =>
        rw [pairT]
        split
        · exact h'
        · exact h'.bind hy
      | con d l => rw [pairT]; exact h'.bind hy
    | con c l =>
      cases y with
      | var n => rw [pairT]; exact h'.bind hx
      | con d l' =>
        rw [pairT]
        split
        · exact pairsF_nice (fun z a b => pairF_nice f z a b) l l' (s, r) h' (Ty.nice_con.1 hx).2 (Ty.nice_con.1 hy).2
        · exact h'
theorem NiceS.uni {s : Int → Ty} (h : NiceS s) {a b : Ty} (ha : a.nice) (hb : b.nice) : NiceS (uni s a b).2 := pairF_nice 10001 (s, 10000) a b h ha hb

theorem nodup_len : ∀ (l S : List Int), l.Nodup → (∀ x ∈ l, x ∈ S) → l.length ≤ S.length
  | [], _, _, _ => Nat.zero_le _
  | x :: l, S, hn, hs => by
    have hx := hs x (by simp)
    have h1 := nodup_len l (S.erase x) (List.nodup_cons.1 hn).2 (fun y hy => (List.mem_erase_of_ne (fun e => (List.nodup_cons.1 hn).1 (by rw [← e]; exact hy))).2 (hs y (by simp [hy])))
    rw [List.length_erase_of_mem hx] at h1
    have := List.length_pos_of_mem hx
    rw [List.length_cons]
    omega
theorem Ty.nice_vrs {t : Ty} (h : t.nice) : (t.vrs []).length ≤ 9 := by
  refine nodup_len (t.vrs []) [1, 2, 3, 4, 5, 6, 7, 8, 9] (Ty.vrs_nodup t [] (by simp)) (fun x hx => ?_)
  rcases (Ty.vrs_mem x t []).1 hx with e | e
  · cases e
  · have := h.2 x e
    simp
    omega

/-- The first i of the nine. -/
def nine (s : Int → Ty) (i : Nat) : List Ty := (List.range i).map fun (j : Nat) => s ((j : Int) + 1)
theorem nine_succ (s : Int → Ty) (i : Nat) : nine s (i + 1) = nine s i ++ [s ((i : Int) + 1)] := by
  unfold nine
  rw [List.range_succ, List.map_append]; rfl
theorem nine_len (s : Int → Ty) (i : Nat) : (nine s i).length = i := by unfold nine; simp
def nAll : ByteArray := ⟨#[97, 108, 108]⟩
def allT (s : Int → Ty) : Ty := .con nAll (nine s 9)
/-- The text, or that it is too big. -/
def shownR (s : Int → Ty) : ByteArray × Int := if ∀ j : Nat, j < 9 → (s ((j : Int) + 1)).sz ≤ 1000 then ((allT s).text', 0) else (⟨#[]⟩, 4)
theorem shownR_yes {s : Int → Ty} (h : ∀ j : Nat, j < 9 → (s ((j : Int) + 1)).sz ≤ 1000) : shownR s = ((allT s).text', 0) := by unfold shownR; rw [if_pos h]
theorem shownR_no {s : Int → Ty} {j : Nat} (hj : j < 9) (h : ¬ (s ((j : Int) + 1)).sz ≤ 1000) : shownR s = (⟨#[]⟩, 4) := by unfold shownR; rw [if_neg fun g => h (g j hj)]
theorem allT_nice {s : Int → Ty} (h : NiceS s) : (allT s).nice := by
  unfold allT
  rw [Ty.nice_con]
  refine ⟨by decide, fun t ht => ?_⟩
  unfold nine at ht
  obtain ⟨j, hj, rfl⟩ := List.mem_map.1 ht
  rw [List.mem_range] at hj
  exact h _ (by omega) (by omega)
theorem szs_bound : ∀ (l : List Ty) (k : Nat), (∀ t ∈ l, t.sz ≤ k) → Ty.szs l ≤ l.length * k
  | [], k, _ => by rw [Ty.szs]; exact Nat.zero_le _
  | t :: l, k, h => by
    have := szs_bound l k (fun u hu => h u (by simp [hu]))
    have := h t (by simp)
    rw [Ty.szs, List.length_cons, Nat.succ_mul]
    omega
theorem allT_sz {s : Int → Ty} (h : ∀ j : Nat, j < 9 → (s ((j : Int) + 1)).sz ≤ 1000) : (allT s).sz ≤ 9001 := by
  have := szs_bound (nine s 9) 1000 (fun t ht => by
    unfold nine at ht
    obtain ⟨j, hj, rfl⟩ := List.mem_map.1 ht
    exact h j (List.mem_range.1 hj))
  unfold allT
  rw [nine_len] at this
  rw [Ty.sz]
  omega
def ShownLoop (T : TypeId) (w : World) (s : Int → Ty) (gk : Nat) (s4 s5 : Value) (wr : World) : Prop :=
  ∃ i : Nat, s5 = .int .i64 ((i : Int) + 1) ∧ i + gk = 9 ∧ TRow T wr w.heap.size s4 (nine s i) ∧ (∀ j : Nat, j < i → (s ((j : Int) + 1)).sz ≤ 1000) ∧ Below w.heap.size w wr
theorem shown_next {T : TypeId} {w wr w7 w9 : World} {v v' : Value} {l : List Ty} (h0 : Below w.heap.size w wr) (hr : TRow T wr w.heap.size v l) (h7 : Below wr.heap.size wr w7) (ht : TStep w7 v w9 v') : Below w.heap.size w w9 := by
  have h1 : Below w.heap.size w w7 := h0.trans (h7.mono h0.size)
  exact (((below_chg h1).mono (F' := v.ownBlock.toList) (by simp)).trans ht.1 (fun k hk => .inl hk)).below (Nat.le_refl _) (fun k hk => (hr.lt (Option.mem_toList.1 hk)).1)
theorem shown_new {T : TypeId} {w wr w5 w7 : World} {v x : Value} {l : List Ty} {t : Ty} (hr : TRow T wr w.heap.size v l) (h0 : Below w.heap.size w wr) (h5 : Below wr.heap.size wr w5) (hv : TyIs w7 (fun b => w5.heap.size ≤ b ∧ b < w7.heap.size) t x) (o o' : Obj) :
    TyIs ((w7.alloc o).alloc o') (fun b => w.heap.size ≤ b ∧ b < ((w7.alloc o).alloc o').heap.size ∧ v.ownBlock ≠ some b) t x :=
  (hv.below (((Below.refl _ _).alloc (Nat.le_refl _) o).alloc (by simp) o') (fun b hb => hb.2)).mono fun b hb => by
    have h1 := hb.1
    have h2 := h5.size
    have h3 := h0.size
    refine ⟨by omega, by have := hb.2; simp; omega, fun e => ?_⟩
    have := (hr.lt e).2
    omega
theorem shown_row {T : TypeId} {wr w7 : World} {base : Nat} {v : Value} {l : List Ty} (hr : TRow T wr base v l) (h7 : Below wr.heap.size wr w7) (o o' : Obj) : TRow T ((w7.alloc o).alloc o') base v l :=
  (hr.below h7).below (((Below.refl _ _).alloc (Nat.le_refl _) _).alloc (by simp) _)
theorem shown_size {w wr w7 : World} (h0 : Below w.heap.size w wr) (h7 : Below wr.heap.size wr w7) (o o' : Obj) : w.heap.size ≤ ((w7.alloc o).alloc o').heap.size := by
  have := h0.size
  have := h7.size
  simp
  omega
theorem shown_two {wr w7 : World} (h7 : Below wr.heap.size wr w7) (o o' : Obj) : Below wr.heap.size wr ((w7.alloc o).alloc o') := (h7.alloc h7.size _).alloc (by have := h7.size; simp; omega) _
set_option maxRecDepth 100000 in
set_option maxHeartbeats 1600000 in
theorem shown_any {R : Nat → Prop} {w : World} {p bm n : Nat} {fr : Int} {s : Int → Ty} (h : SolvAt R w p bm n fr s) (hs : NiceS s) :
    Calls Tryd.prog 19 #[.pointer (some ⟨p, 0, none⟩)] w fun e w' => e = .returned (.tuple #[.string (shownR s).1, .int .i64 (shownR s).2]) ∧ Below w.heap.size w w' := by
  have H := Lib.hid h
  have HN := Lib.hid hs
  clear h hs
  go_enter Tryd.func19, Tryd.ntmps19
  go_wp2
  have HL : Hid (ShownLoop 25 w s 9 (.slice none 0 0) (.int .i64 1) w) := ⟨0, rfl, rfl, TRow.nil _ _, fun j hj => by omega, Below.refl _ _⟩
  go_loopg [4, 5, 6, 7] 9 (fun gk s4 s5 s6 s7 wr => ShownLoop 25 w s gk s4 s5 wr)
  case atStart => exact HL.out
  case round =>
    clear HL
    obtain ⟨i, rfl, hik, hr, hsz, hb⟩ := hrel
    obtain ⟨ar, cr, rfl⟩ := hr.form
    have HRW := Lib.hid hr
    have HSZ := Lib.hid hsz
    have HB := Lib.hid hb
    have hbs := hb.size
    clear hr hsz hb
    have g0 : (0 : Int) ≤ (i : Int) := by omega
    by_cases hlt : i < 9
    · have g1 : (i : Int) + 1 < 10 := by omega
      have hwf : (Lit.int .i64 ((i : Int) + 1)).wf = true := Go.WalkArith.wf_i64 ⟨by omega, by omega⟩
      have e1 : (Ty.var ((i : Int) + 1)).sub s = s ((i : Int) + 1) := by rw [Ty.sub]
      by_cases hz : (s ((i : Int) + 1)).sz ≤ 1000
      · have HF : Hid (∀ W, Below wr.heap.size wr W → Calls Tryd.prog 10 #[.pointer (some ⟨p, 0, none⟩), .agg #[.int .i64 0, .int .i64 ((i : Int) + 1), .string ⟨#[]⟩, .slice none 0 0]] W (YesEnd W (s ((i : Int) + 1)))) := fun W hW => by
          have := (H.out.chg (HB.out.trans (hW.mono hbs))).full_yes (.var ((i : Int) + 1)) _ (TyIs.mk_var hwf) (by rw [e1]; exact hz)
          rw [e1] at this; exact this
        have HZ := Lib.hid hz
        obtain ⟨y, hy⟩ : ∃ y, y = s ((i : Int) + 1) := ⟨_, rfl⟩
        rw [← hy] at HF
        have HY := Lib.hid hy
        clear hwf e1 hz hy
        unfold YesEnd tval at HF
        go_wp2_with (first
          | (go_at_call 11; with_reducible refine (var_any _ _).mono ?_; rintro e w5 ⟨rfl, hb5⟩; have B5 := Lib.hid hb5; clear hb5)
          | (go_at_call 10; with_reducible refine (HF.out _ B5.out).mono ?_; clear HF; rintro e w7 ⟨a7, p7, rfl, ht7, hb7⟩; have T7 := Lib.hid ht7; have B7 := Lib.hid (B5.out.trans (hb7.mono B5.out.size)); clear ht7 hb7)
          | (at_builtin; refine wpList_appt rfl _ _ 23 25 rfl Tryd.underlying23 infoK (base := w.heap.size) rfl (shown_row HRW.out B7.out _ _) (t := y) (p := (a7, p7)) (ad := ⟨w7.heap.size + 1, 0, none⟩) (c := 1) rfl (cell_four_new2 _ _ _ _ _ _ _) (shown_new HRW.out HB.out B5.out T7.out _ _) (shown_size HB.out B7.out _ _) (by rw [nine_len]; omega) ?_; intro g9 cap9 w9 hr9 ht9))
        go_roundg (gk - 1)
        case measure => omega
        case rel =>
          refine ⟨i + 1, by go_num, by omega, by rw [nine_succ, ← HY.out]; exact hr9, fun j hj => ?_, shown_next HB.out HRW.out (shown_two B7.out _ _) ht9⟩
          rcases Nat.lt_or_ge j i with h1 | h1
          · exact HSZ.out j h1
          · have : j = i := by omega
            rw [this]; exact HZ.out
      · have HF : Hid (∀ W, Below wr.heap.size wr W → Calls Tryd.prog 10 #[.pointer (some ⟨p, 0, none⟩), .agg #[.int .i64 0, .int .i64 ((i : Int) + 1), .string ⟨#[]⟩, .slice none 0 0]] W (NoEnd W 4)) := fun W hW =>
          (H.out.chg (HB.out.trans (hW.mono hbs))).full_no (.var ((i : Int) + 1)) _ (TyIs.mk_var hwf) (by rw [e1]; exact hz)
        have HZ := Lib.hid hz
        clear hwf e1 hz
        unfold NoEnd at HF
        go_wp2_with (first
          | (go_at_call 11; with_reducible refine (var_any _ _).mono ?_; rintro e w5 ⟨rfl, hb5⟩; have B5 := Lib.hid hb5; clear hb5)
          | (go_at_call 10; with_reducible refine (HF.out _ B5.out).mono ?_; clear HF; rintro e w7 ⟨rfl, hb7⟩; have B7 := Lib.hid (B5.out.trans (hb7.mono B5.out.size)); clear hb7))
        refine bodyPost_ret (v := .tuple #[.string ⟨#[]⟩, .int .i64 4]) (by simp [results, Tryd.results19, go_sem]) rfl ?_
        rw [shownR_no hlt HZ.out]
        exact ⟨rfl, HB.out.trans ((B7.out.alloc B7.out.size _).mono hbs)⟩
    · obtain rfl : i = 9 := by omega
      obtain ⟨ao, cap, hv, h1, h2, h3, h4⟩ := HRW.out.kids
      rw [nine_len] at hv h1 HRW ⊢
      injection hv with e1 e2 e3
      subst e1 e3
      have HC := Lib.hid (con_any nAll (nine s 9) ar cr wr _ (by decide) (by intro e; have := nine_len s 9; rw [e] at this; cases this) (by rw [nine_len]; omega) h4 (fun b hb => hb.2))
      have HS : Hid (∀ (W : World) (v : Value), TyIs W (fun b => b < W.heap.size) (allT s) v → Calls Tryd.prog 28 #[v] W (ShowEnd W (allT s).text')) := fun W v hv =>
        showAll_any (Nat.le_trans (allT_sz HSZ.out) (by omega)) (allT_nice HN.out).1 (Nat.le_trans (Ty.nice_vrs (allT_nice HN.out)) (by omega)) hv (fun b hb => hb)
      have HE : Hid (shownR s = ((allT s).text', 0)) := shownR_yes HSZ.out
      unfold ShowEnd at HS
      unfold ConEnd nAll at HC
      rw [nine_len] at HC
      clear h1 h2 h3 h4
      go_wp2_with (first
        | (go_at_call 23; with_reducible refine HC.out.mono ?_; clear HC; rintro e w5 ⟨g5, c5, rfl, ht5, hb5⟩; have T5 := Lib.hid (ht5.mono fun b hb => hb.2); have B5 := Lib.hid hb5; clear ht5 hb5)
        | (go_at_call 28; with_reducible refine (HS.out _ _ T5.out).mono ?_; clear HS; rintro e w7 ⟨rfl, hb7⟩; have B7 := Lib.hid hb7; clear hb7))
      refine bodyPost_ret (v := .tuple #[.string (allT s).text', .int .i64 0]) (by simp [results, Tryd.results19, go_sem]) rfl ?_
      rw [HE.out]
      exact ⟨rfl, HB.out.trans ((B5.out.trans (B7.out.mono B5.out.size)).mono hbs)⟩
set_option maxRecDepth 100000 in
set_option maxHeartbeats 1600000 in
theorem want_any {w : World} {p n : Nat} {F : List Nat} {md : Int} {s : Int → Ty} (h : RefAt w p F n md s) (hs : NiceS s) :
    Calls Tryd.prog 20 #[.pointer (some ⟨p, 0, none⟩)] w fun e w' => e = .returned (.tuple #[.string (shownR s).1, .int .i64 (shownR s).2]) ∧ Below w.heap.size w w' := by
  have H := Lib.hid h
  have HN := Lib.hid hs
  clear h hs
  go_enter Tryd.func20, Tryd.ntmps20
  go_wp2
  have HL : Hid (ShownLoop 40 w s 9 (.slice none 0 0) (.int .i64 1) w) := ⟨0, rfl, rfl, TRow.nil _ _, fun j hj => by omega, Below.refl _ _⟩
  go_loopg [4, 5, 6, 7] 9 (fun gk s4 s5 s6 s7 wr => ShownLoop 40 w s gk s4 s5 wr)
  case atStart => exact HL.out
  case round =>
    clear HL
    obtain ⟨i, rfl, hik, hr, hsz, hb⟩ := hrel
    obtain ⟨ar, cr, rfl⟩ := hr.form
    have HRW := Lib.hid hr
    have HSZ := Lib.hid hsz
    have HB := Lib.hid hb
    have hbs := hb.size
    clear hr hsz hb
    have g0 : (0 : Int) ≤ (i : Int) := by omega
    by_cases hlt : i < 9
    · have g1 : (i : Int) + 1 < 10 := by omega
      have hwf : (Lit.int .i64 ((i : Int) + 1)).wf = true := Go.WalkArith.wf_i64 ⟨by omega, by omega⟩
      have e1 : (Ty.var ((i : Int) + 1)).sub s = s ((i : Int) + 1) := by rw [Ty.sub]
      by_cases hz : (s ((i : Int) + 1)).sz ≤ 1000
      · have HF : Hid (∀ W, Below wr.heap.size wr W → Calls Tryd.prog 38 #[.pointer (some ⟨p, 0, none⟩), .agg #[.int .i64 0, .int .i64 ((i : Int) + 1), .string ⟨#[]⟩, .slice none 0 0]] W (YesEnd W (s ((i : Int) + 1)))) := fun W hW => by
          have := refFull_yes (H.out.below (HB.out.trans (hW.mono hbs))) (.var ((i : Int) + 1)) _ (TyIs.mk_var hwf) (by rw [e1]; exact hz)
          rw [e1] at this; exact this
        have HZ := Lib.hid hz
        obtain ⟨y, hy⟩ : ∃ y, y = s ((i : Int) + 1) := ⟨_, rfl⟩
        rw [← hy] at HF
        have HY := Lib.hid hy
        clear hwf e1 hz hy
        unfold YesEnd tval at HF
        go_wp2_with (first
          | (go_at_call 24; with_reducible refine (refVar_any _ _).mono ?_; rintro e w5 ⟨rfl, hb5⟩; have B5 := Lib.hid hb5; clear hb5)
          | (go_at_call 38; with_reducible refine (HF.out _ B5.out).mono ?_; clear HF; rintro e w7 ⟨a7, p7, rfl, ht7, hb7⟩; have T7 := Lib.hid ht7; have B7 := Lib.hid (B5.out.trans (hb7.mono B5.out.size)); clear ht7 hb7)
          | (at_builtin; refine wpList_appt rfl _ _ 22 40 rfl Tryd.underlying22 infoR (base := w.heap.size) rfl (shown_row HRW.out B7.out _ _) (t := y) (p := (a7, p7)) (ad := ⟨w7.heap.size + 1, 0, none⟩) (c := 1) rfl (cell_four_new2 _ _ _ _ _ _ _) (shown_new HRW.out HB.out B5.out T7.out _ _) (shown_size HB.out B7.out _ _) (by rw [nine_len]; omega) ?_; intro g9 cap9 w9 hr9 ht9))
        go_roundg (gk - 1)
        case measure => omega
        case rel =>
          refine ⟨i + 1, by go_num, by omega, by rw [nine_succ, ← HY.out]; exact hr9, fun j hj => ?_, shown_next HB.out HRW.out (shown_two B7.out _ _) ht9⟩
          rcases Nat.lt_or_ge j i with h1 | h1
          · exact HSZ.out j h1
          · have : j = i := by omega
            rw [this]; exact HZ.out
      · have HF : Hid (∀ W, Below wr.heap.size wr W → Calls Tryd.prog 38 #[.pointer (some ⟨p, 0, none⟩), .agg #[.int .i64 0, .int .i64 ((i : Int) + 1), .string ⟨#[]⟩, .slice none 0 0]] W (NoEnd W 4)) := fun W hW =>
          refFull_no (H.out.below (HB.out.trans (hW.mono hbs))) (.var ((i : Int) + 1)) _ (TyIs.mk_var hwf) (by rw [e1]; exact hz)
        have HZ := Lib.hid hz
        clear hwf e1 hz
        unfold NoEnd at HF
        go_wp2_with (first
          | (go_at_call 24; with_reducible refine (refVar_any _ _).mono ?_; rintro e w5 ⟨rfl, hb5⟩; have B5 := Lib.hid hb5; clear hb5)
          | (go_at_call 38; with_reducible refine (HF.out _ B5.out).mono ?_; clear HF; rintro e w7 ⟨rfl, hb7⟩; have B7 := Lib.hid (B5.out.trans (hb7.mono B5.out.size)); clear hb7))
        refine bodyPost_ret (v := .tuple #[.string ⟨#[]⟩, .int .i64 4]) (by simp [results, Tryd.results20, go_sem]) rfl ?_
        rw [shownR_no hlt HZ.out]
        exact ⟨rfl, HB.out.trans ((B7.out.alloc B7.out.size _).mono hbs)⟩
    · obtain rfl : i = 9 := by omega
      obtain ⟨ao, cap, hv, h1, h2, h3, h4⟩ := HRW.out.kids
      rw [nine_len] at hv h1 HRW ⊢
      injection hv with e1 e2 e3
      subst e1 e3
      have HC : Hid (∀ W, Below wr.heap.size wr W → TyIs W (fun b => b < W.heap.size) (allT s) (.agg #[.int .i64 1, .int .i64 0, .string ⟨#[97, 108, 108]⟩, .slice ar 9 cr])) := fun W hW => by
        have := TyIs.mk_con (c := nAll) (l := nine s 9) (ao := ar) (cap := cr) (w := W) (P := fun b => b < W.heap.size) (by rw [nine_len]; exact h1) h2 (by decide) h3 ((h4.below hW (fun b hb => hb.2)).mono fun b hb => Nat.lt_of_lt_of_le hb.2 hW.size)
        rw [nine_len] at this
        exact this
      have HS : Hid (∀ (W : World) (v : Value), TyIs W (fun b => b < W.heap.size) (allT s) v → Calls Tryd.prog 29 #[v] W (ShowEnd W (allT s).text')) := fun W v hv =>
        refShowAll_any (Nat.le_trans (allT_sz HSZ.out) (by omega)) (allT_nice HN.out).1 (Nat.le_trans (Ty.nice_vrs (allT_nice HN.out)) (by omega)) hv (fun b hb => hb)
      have HE : Hid (shownR s = ((allT s).text', 0)) := shownR_yes HSZ.out
      unfold ShowEnd at HS
      clear h1 h2 h3 h4
      go_wp2_with (first
        | (go_at_call 25; with_reducible refine (refCon_any _ _ _ _ _).mono ?_; rintro e w5 ⟨rfl, hb5⟩; have T5 := Lib.hid (HC.out w5 hb5); have B5 := Lib.hid hb5; clear hb5)
        | (go_at_call 29; with_reducible refine (HS.out _ _ T5.out).mono ?_; clear HS; rintro e w7 ⟨rfl, hb7⟩; have B7 := Lib.hid hb7; clear hb7))
      refine bodyPost_ret (v := .tuple #[.string (allT s).text', .int .i64 0]) (by simp [results, Tryd.results20, go_sem]) rfl ?_
      rw [HE.out]
      exact ⟨rfl, HB.out.trans ((B5.out.trans (B7.out.mono B5.out.size)).mono hbs)⟩
end Go.Proofs.YthchkekegkhanaaDoor
