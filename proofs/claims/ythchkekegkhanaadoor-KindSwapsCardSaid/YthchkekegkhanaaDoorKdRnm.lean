/- The law KindRenames. -/
import Derived.Test.YthchkekegkhanaaDoorKdOrd
import Derived.Test.YthchkekegkhanaaDoorKdZat
namespace Go.Proofs.YthchkekegkhanaaDoor
open Go.RowKit Go.Maps
set_option linter.unusedVariables false

theorem pickAt {n : Int} : ∀ {h : List Int} {ts : List Ty}, n ∈ h → h.length ≤ ts.length → pick n h ts = ts[h.idxOf n]?
  | [], _, hm, _ => by cases hm
  | a :: h, [], _, hl => by simp at hl
  | a :: h, t :: ts, hm, hl => by
    rw [pick, List.idxOf_cons]
    by_cases e : a = n
    · subst e; simp
    · have e2 : (a == n) = false := by simpa using e
      rw [if_neg e, e2, pickAt (by rcases List.mem_cons.1 hm with rfl | hm; exact absurd rfl e; exact hm) (by simpa using hl)]
      rfl
/-- The new names. -/
def othN (c : Int) (h : List Int) (i : Nat) : Int := c + ((h.length : Int) - (i : Int))
def oth (c : Int) (h : List Int) (i : Nat) : List Ty := (List.range i).map fun (j : Nat) => Ty.var (othN c h j)
theorem oth_succ (c : Int) (h : List Int) (i : Nat) : oth c h (i + 1) = oth c h i ++ [.var (othN c h i)] := by unfold oth; rw [List.range_succ, List.map_append]; rfl
theorem oth_len (c : Int) (h : List Int) (i : Nat) : (oth c h i).length = i := by unfold oth; simp
def bakL (h : List Int) : List Ty := h.map Ty.var
def renF (c : Int) (h : List Int) (n : Int) : Int := othN c h (h.idxOf n)
theorem ren_inj {c : Int} {h : List Int} {a b : Int} (ha : a ∈ h) (hb : b ∈ h) (e : renF c h a = renF c h b) : a = b := by
  unfold renF othN at e
  have h1 := List.idxOf_lt_length_of_mem ha
  have h2 := List.idxOf_lt_length_of_mem hb
  have h3 : h.idxOf a = h.idxOf b := by omega
  rw [← List.getElem_idxOf h1, ← List.getElem_idxOf h2]
  simp only [h3]
theorem swS_oth {c : Int} {h : List Int} {n : Int} (hn : n ∈ h) : swS h (oth c h h.length) n = .var (renF c h n) := by
  have h1 := List.idxOf_lt_length_of_mem hn
  unfold swS
  rw [pickAt hn (by rw [oth_len]; exact Nat.le_refl _)]
  unfold oth
  rw [List.getElem?_map, List.getElem?_range h1]
  rfl
theorem sub_oth {c : Int} {t : Ty} {h : List Int} (ht : ∀ n, t.has n = true → n ∈ h) : t.sub (swS h (oth c h h.length)) = t.sub (Ty.ren (renF c h)) := Ty.sub_congr t fun n hn => swS_oth (ht n hn)
theorem oth_facts (c : Int) (t : Ty) : (t.sub (swS (t.vrs []) (oth c (t.vrs []) (t.vrs []).length))).text' = t.text' ∧
    (t.sub (swS (t.vrs []) (oth c (t.vrs []) (t.vrs []).length))).vrs [] = (t.vrs []).map (renF c (t.vrs [])) ∧
    (t.sub (swS (t.vrs []) (oth c (t.vrs []) (t.vrs []).length))).sub (swS ((t.vrs []).map (renF c (t.vrs []))) (bakL (t.vrs []))) = t := by
  have hv : ∀ n, n ∈ t.vrs [] ↔ t.has n = true := fun n => by rw [Ty.vrs_mem]; simp
  rw [sub_oth fun n hn => (hv n).2 hn]
  refine ⟨Ty.text_ren _ t fun a b ha hb e => ren_inj ((hv a).2 ha) ((hv b).2 hb) e, ?_, ?_⟩
  · have := Ty.vrs_ren (renF c (t.vrs [])) t [] fun a b ha hb e => ren_inj ((hv a).2 (by rcases ha with e | e; cases e; exact e)) ((hv b).2 (by rcases hb with e | e; cases e; exact e)) e
    rw [List.map_nil] at this
    exact this
  · rw [Ty.sub_sub]
    have : ∀ n, t.has n = true → (Ty.ren (renF c (t.vrs [])) n).sub (swS ((t.vrs []).map (renF c (t.vrs []))) (bakL (t.vrs []))) = Ty.var n := fun n hn => by
      have hm := (hv n).2 hn
      have h1 := List.idxOf_lt_length_of_mem hm
      unfold Ty.ren
      rw [Ty.sub]
      unfold swS
      rw [pickAt (List.mem_map.2 ⟨n, hm, rfl⟩) (by unfold bakL; simp), idx_map_inj fun a ha e => ren_inj ha hm e]
      unfold bakL
      rw [List.getElem?_map, List.getElem?_eq_getElem h1, List.getElem_idxOf h1]
      rfl
    rw [Ty.sub_congr t (s' := Ty.var) this, Ty.sub_var]
theorem Ty.ren_sz (f : Int → Int) (t : Ty) : (t.sub (Ty.ren f)).sz = t.sz := by
  refine Ty.ind (p := fun t => (t.sub (Ty.ren f)).sz = t.sz) (fun n => by rw [Ty.sub, Ty.ren, Ty.sz, Ty.sz]) (fun c l ih => ?_) t
  rw [Ty.sub_con, Ty.sz, Ty.sz]
  congr 1
  have : ∀ l : List Ty, (∀ t ∈ l, (t.sub (Ty.ren f)).sz = t.sz) → Ty.szs (l.map (Ty.sub (Ty.ren f))) = Ty.szs l := by
    intro l
    induction l with
    | nil => intro _; rfl
    | cons a l ihl =>
      intro h
      rw [List.map_cons, Ty.szs, Ty.szs, h a (by simp), ihl fun t ht => h t (by simp [ht])]
  exact this l ih
theorem Ty.ren_short (f : Int → Int) (t : Ty) : t.short → (t.sub (Ty.ren f)).short := by
  refine Ty.ind (p := fun t => t.short → (t.sub (Ty.ren f)).short) (fun n _ => by rw [Ty.sub, Ty.ren, Ty.short]; trivial) (fun c l ih h => ?_) t
  rw [Ty.sub_con, Ty.short, Ty.shorts_iff]
  rw [Ty.short, Ty.shorts_iff] at h
  refine ⟨h.1, fun u hu => ?_⟩
  obtain ⟨t, ht, rfl⟩ := List.mem_map.1 hu
  exact ih t ht (h.2 t ht)
/-- Boxes with cells of their own. -/
structure BxAt (w W : World) (L : List (Nat × Array Value × TypeId)) : Prop where
  hb : Below w.heap.size w W
  bx : ∀ x ∈ L, W.heap[x.1]? = some (.cells x.2.1 x.2.2 (0, 0))
section
variable {w W W' : World} {L : List (Nat × Array Value × TypeId)}
theorem BxAt.below (h : BxAt w W L) (hb : Below W.heap.size W W') : BxAt w W' L := ⟨ot h.hb hb, fun x hx => (hb.block _ (lt_of_block (h.bx x hx))).trans (h.bx x hx)⟩
theorem BxAt.box (h : BxAt w W L) (cs : Array Value) (ty : TypeId) : BxAt w (W.alloc (.cells cs ty)) ((W.heap.size, cs, ty) :: L) := by
  have h' := h.below (W' := W.alloc (.cells cs ty)) ((Below.refl _ _).alloc (Nat.le_refl _) _)
  refine ⟨h'.hb, fun x hx => ?_⟩
  rcases List.mem_cons.1 hx with rfl | hx
  · exact heap_alloc_new W _
  · exact h'.bx x hx
theorem BxAt.at4 (h : BxAt w W L) {b : Nat} {a0 a1 a2 a3 : Value} {ty : TypeId} (hm : (b, #[a0, a1, a2, a3], ty) ∈ L) : W.cell? ⟨b, 0, none⟩ = some a0 ∧ W.cell? ⟨b, 1, none⟩ = some a1 ∧ W.cell? ⟨b, 2, none⟩ = some a2 ∧ W.cell? ⟨b, 3, none⟩ = some a3 := by
  obtain ⟨c0, c1, c2, c3, _⟩ := hdr4_cells (h.bx _ hm)
  exact ⟨c0, c1, c2, c3⟩
end
def agT (t : Ty) (a : Option Addr) (c : Nat) : Array Value := #[.int .i64 t.op, .int .i64 t.num, .string t.text, .slice a t.kids.length c]
theorem ints_up {w w' : World} {v : Value} {h : List Int} (hi : IntsAt w v h) (hb : Below w.heap.size w w') : IntsAt w' v h := by
  obtain ⟨ao, cap, h1, h2, h3, k⟩ := hi
  refine ⟨ao, cap, h1, h2, h3, fun i x hx => ?_⟩
  obtain ⟨g, o, e, hg, hc⟩ := k i x hx
  exact ⟨g, o, e, Nat.lt_of_lt_of_le hg hb.size, (hb.cell (p := ⟨g, o + i, none⟩) hg).trans hc⟩
/-- All four boxes. -/
def RnmIn (w : World) (b9 b5 b2 : Nat) (t y : Ty) (a9 : Option Addr) (c9 : Nat) (a3 : Option Addr) (c3 : Nat) (a2 : Option Addr) (c2 : Nat) (s12 : Value) (wx : World) : Prop :=
  ∃ b12 a c, s12 = .pointer (some ⟨b12, 0, none⟩) ∧ BxAt w wx [(b12, agT t a c, 25), (b9, agT y a9 c9, 25), (b5, agT t a3 c3, 25), (b2, agT t a2 c2, 40)] ∧
    TyOf wx t (tval t a c) ∧ TyOf wx y (tval y a9 c9) ∧ TyOf wx t (tval t a3 c3) ∧ TyOf wx t (tval t a2 c2)
theorem rnm_in {w wq W : World} {b9 b5 b2 b12 A B : Nat} {t y : Ty} {a9 a3 a2 a : Option Addr} {c9 c3 c2 c : Nat} (h : BxAt w wq [(b9, agT y a9 c9, 25), (b5, agT t a3 c3, 25), (b2, agT t a2 c2, 40)])
    (ty : TyOf wq y (tval y a9 c9)) (tx : TyOf wq t (tval t a3 c3)) (t0 : TyOf wq t (tval t a2 c2)) (hb : Below wq.heap.size wq W) (z12 : Zat W b12 #[.int .i64 t.op, .int .i64 t.num, .string t.text, .slice a t.kids.length c] 25)
    (hz : TyIs W (fun b => A ≤ b ∧ b < B) t (tval t a c)) (hB : B ≤ W.heap.size) : RnmIn w b9 b5 b2 t y a9 c9 a3 c3 a2 c2 (.pointer (some ⟨b12, 0, none⟩)) W := by
  have h' := h.below hb
  refine ⟨b12, a, c, rfl, ⟨h'.hb, fun x hx => ?_⟩, hz.mono fun b hb => by omega, ty.up hb, tx.up hb, t0.up hb⟩
  rcases List.mem_cons.1 hx with rfl | hx
  · exact z12
  · exact h'.bx x hx
theorem rnm_cells {w W : World} {b12 b9 b5 b2 : Nat} {x0 x1 x2 x3 y0 y1 y2 y3 u0 u1 u2 u3 v0 v1 v2 v3 : Value} {t1 t2 t3 t4 : TypeId} (h : BxAt w W [(b12, #[x0, x1, x2, x3], t1), (b9, #[y0, y1, y2, y3], t2), (b5, #[u0, u1, u2, u3], t3), (b2, #[v0, v1, v2, v3], t4)]) :
    (W.cell? ⟨b12, 0, none⟩ = some x0 ∧ W.cell? ⟨b12, 1, none⟩ = some x1 ∧ W.cell? ⟨b12, 2, none⟩ = some x2 ∧ W.cell? ⟨b12, 3, none⟩ = some x3) ∧ (W.cell? ⟨b9, 0, none⟩ = some y0 ∧ W.cell? ⟨b9, 1, none⟩ = some y1 ∧ W.cell? ⟨b9, 2, none⟩ = some y2 ∧ W.cell? ⟨b9, 3, none⟩ = some y3) ∧ (W.cell? ⟨b5, 0, none⟩ = some u0 ∧ W.cell? ⟨b5, 1, none⟩ = some u1 ∧ W.cell? ⟨b5, 2, none⟩ = some u2 ∧ W.cell? ⟨b5, 3, none⟩ = some u3) ∧ (W.cell? ⟨b2, 0, none⟩ = some v0 ∧ W.cell? ⟨b2, 1, none⟩ = some v1 ∧ W.cell? ⟨b2, 2, none⟩ = some v2 ∧ W.cell? ⟨b2, 3, none⟩ = some v3) :=
  ⟨h.at4 (.head _), h.at4 (List.Mem.tail _ (List.Mem.head _)), h.at4 (List.Mem.tail _ (List.Mem.tail _ (List.Mem.head _))), h.at4 (List.Mem.tail _ (List.Mem.tail _ (List.Mem.tail _ (List.Mem.head _))))⟩
def OthLoop (W : World) (c : Int) (h : List Int) (gk : Nat) (s7 s8 : Value) (wr : World) : Prop :=
  ∃ i : Nat, s8 = .int .i64 i ∧ i + gk = h.length ∧ TRow 25 wr W.heap.size s7 (oth c h i) ∧ Below W.heap.size W wr
def BakLoop (W : World) (h : List Int) (gk : Nat) (s10 s11 : Value) (wr : World) : Prop :=
  ∃ i : Nat, s11 = .int .i64 i ∧ i + gk = h.length ∧ TRow 25 wr W.heap.size s10 (bakL (h.take i)) ∧ Below W.heap.size W wr
theorem rnm_rem (a : Int) : ∃ n : Nat, IntKind.i64.wrap ((IntKind.u64.wrap a).tmod 1000) = (n : Int) ∧ n < 1000 := by
  have hw : 0 ≤ IntKind.u64.wrap a := by show 0 ≤ a % 18446744073709551616; omega
  have e : (IntKind.u64.wrap a).tmod 1000 = IntKind.u64.wrap a % 1000 := Int.tmod_eq_emod_of_nonneg hw
  have b0 := Int.emod_nonneg (IntKind.u64.wrap a) (show (1000 : Int) ≠ 0 by omega)
  have b1 := Int.emod_lt_of_pos (IntKind.u64.wrap a) (show (0 : Int) < 1000 by omega)
  rw [e]
  generalize IntKind.u64.wrap a % 1000 = x at *
  exact ⟨x.toNat, by rw [IntKind.wrap_i64]; omega, by omega⟩
set_option maxRecDepth 100000 in
set_option maxHeartbeats 3200000 in
theorem kindRenames_walk (t0 : VT) (v : Value) (a1 : Int) (w : World) (hv : ValIs w (fun b => b < w.heap.size) t0 v) :
    Calls Tryd.prog 8 #[v, .int .i64 a1] w fun e w' => e = .returned (.bool true) ∧ Below w.heap.size w w' := by
  obtain ⟨N, hN, hN1⟩ := rnm_rem a1
  have hform : ∃ ao cap, v = .agg #[.int .i64 t0.kind, .int .i64 t0.num, .string t0.text, .slice ao t0.kids.length cap] := by
    have h := hv
    rw [t0.eta] at h
    unfold ValIs at h
    obtain ⟨ao, cap, h, _⟩ := h
    exact ⟨ao, cap, h⟩
  obtain ⟨ao, cap, rfl⟩ := hform
  have HTM := Lib.hid (tame_any (hv.below ((Below.refl w.heap.size w).alloc (Nat.le_refl _) (.cells #[.int .i64 t0.kind, .int .i64 t0.num, .string t0.text, .slice ao t0.kids.length cap] 40)) (fun b hb => hb)) (fun b hb => by simp; omega))
  obtain ⟨t, ht⟩ : ∃ t, t = tm t0 := ⟨_, rfl⟩
  rw [← ht] at HTM
  have HTN : Hid (t.nice ∧ t.sz ≤ 60) := by rw [ht]; exact ⟨tm_nice _, tm_sz _⟩
  clear ht hv
  unfold NewTy tval at HTM
  go_enter Tryd.func8, Tryd.ntmps8
  go_upto_region 3 with (go_at_call 16; (with_reducible refine HTM.out.mono ?_); clear HTM; rintro e w1 ⟨a2, c2, rfl, ht1, hb1⟩; have z1 := (hb1.block w.heap.size (by simp)).trans (heap_alloc_new w _); obtain ⟨g0, g1, g2, g3, g4⟩ := hdr4_cells z1; have T1 := Lib.hid ht1; have B1 := Lib.hid hb1; have Z1 := Lib.hid z1; clear ht1 hb1 z1)
  obtain ⟨hz, hc⟩ := four_ret (y0 := .int .i64 t.op) (y1 := .int .i64 t.num) (y2 := .string t.text) (y3 := .slice a2 t.kids.length c2) Z1.out
  generalize ((((World.setCell w1 _ _).setCell _ _).setCell _ _).setCell _ _) = W1 at hz hc ⊢
  have hB : BxAt w W1 [(w.heap.size, agT t a2 c2, 40)] := by
    have hb1 := B1.out
    have hs1 := hb1.size
    simp only [World.size_alloc] at hs1
    refine ⟨(((Below.refl _ _).alloc (Nat.le_refl _) _).trans (hb1.mono (by simp))).trans (hc.below (by omega) (by simp)), fun x hx => ?_⟩
    rw [List.mem_singleton] at hx
    subst hx
    exact hz
  have hT : TyOf W1 t (tval t a2 c2) := by
    have hs1 := B1.out.size
    simp only [World.size_alloc] at hs1
    exact (T1.out.chg hc (fun b hb => ⟨hb.2, by have := hb.1; simp at this ⊢; omega⟩)).mono fun b hb => Nat.lt_of_lt_of_le hb.2 hc.size
  obtain ⟨b2, hb2⟩ : ∃ b2, b2 = w.heap.size := ⟨_, rfl⟩
  rw [← hb2] at hB ⊢
  have HB2 := Lib.hid hb2
  clear hb2 hz hc g0 g1 g2 g3 g4 Z1 B1 T1
  have B0 := Lib.hid hB
  have T0 := Lib.hid hT
  obtain ⟨c0, c1', c2', c3'⟩ := B0.out.at4 (b := b2) (.head _)
  have HTO : Hid (∀ (W : World) (u : Ty) (x : Value), TyOf W u x → u.sz ≤ 60 → Calls Tryd.prog 17 #[x] W (NewTy W u)) := fun W u x h hz => to_new h (fun b hb => hb) hz
  unfold NewTy tval at HTO
  have HVA : Hid (∀ (W : World) (u : Ty) (x : Value), TyOf W u x → u.sz ≤ 60 → Calls Tryd.prog 26 #[x] W fun e w' => ∃ vo, e = .returned vo ∧ IRow w' W.heap.size vo (u.vrs []) ∧ Below W.heap.size W w') := fun W u x h hz => vars_any u x W _ (by omega) h (fun b hb => hb)
  clear hB hT
  unfold agT at B0
  unfold tval at T0
  go_upto_region 5 with (first
    | (go_at_call 17; (with_reducible refine (HTO.out _ _ _ T0.out HTN.out.2).mono ?_); rintro e w2 ⟨a3, c3, rfl, ht2, hb2⟩; have T2 := Lib.hid (TyOf.new ht2); have B2 := Lib.hid (B0.out.below hb2); have C2 := Lib.hid hb2; clear ht2 hb2)
    | (go_at_call 26; (with_reducible refine (HVA.out _ _ _ (T2.out.up (oa (Below.refl _ _) _)) HTN.out.2).mono ?_); rintro e w3 ⟨vo, rfl, hr3, hb3⟩; obtain ⟨a6, p6, rfl, hp6, hm6⟩ := hr3.form; have R3 := Lib.hid hr3; have B3 := Lib.hid ((B2.out.box _ _).below hb3); have T3 := Lib.hid ((T2.out.up (oa (Below.refl _ _) _)).up hb3); have T03 := Lib.hid (((T0.out.up C2.out).up (oa (Below.refl _ _) _)).up hb3); clear hr3 hb3))
  obtain ⟨h, hh⟩ : ∃ h, h = t.vrs [] := ⟨_, rfl⟩
  rw [← hh] at R3 ⊢
  have HH := Lib.hid hh
  have HL9 : Hid (h.length ≤ 9) := by rw [hh]; exact Ty.nice_vrs HTN.out.1
  have hl9 : h.length ≤ 9 := HL9.out
  clear hh
  obtain ⟨C, hC⟩ : ∃ C : Int, C = 2000 + (N : Int) * 3 := ⟨_, rfl⟩
  have HC := Lib.hid hC
  clear hC
  have HL : Hid (OthLoop w3 C h h.length (.slice none 0 0) (.int .i64 0) w3) := ⟨0, rfl, by omega, TRow.nil _ _, Below.refl _ _⟩
  go_wp2
  go_loopg [7, 8] h.length (fun gk s7 s8 wr => OthLoop w3 C h gk s7 s8 wr)
  case atStart => exact HL.out
  case round =>
    clear HL
    obtain ⟨i, rfl, hik, hr, hb⟩ := hrel
    obtain ⟨ar, cr, rfl⟩ := hr.form
    have HRW := Lib.hid hr
    have HBW := Lib.hid hb
    have hbs := hb.size
    clear hr hb
    have g0 : (0 : Int) ≤ (i : Int) := by omega
    by_cases hlt : i < h.length
    · have g1 : (i : Int) < (h.length : Int) := by omega
      have g9 : (h.length : Int) ≤ 9 := by omega
      have gN : (N : Int) < 1000 := by omega
      have HO : Hid (2000 + (N : Int) * 3 + ((h.length : Int) - (i : Int)) = othN C h i) := by show _ = _; rw [HC.out]; rfl
      obtain ⟨x, hx⟩ : ∃ x, x = othN C h i := ⟨_, rfl⟩
      have hwf : (Lit.int .i64 x).wf = true := by rw [hx, ← HO.out]; exact Go.WalkArith.wf_i64 ⟨by omega, by omega⟩
      have hx2 : 2000 + (N : Int) * 3 + ((h.length : Int) - (i : Int)) = x := by rw [hx]; exact HO.out
      have HX := Lib.hid hx
      have HWF := Lib.hid hwf
      clear hx hwf
      go_wp2_with (first
        | (go_at_call 11; (with_reducible refine (var_any _ _).mono ?_); rintro e w7 ⟨rfl, hb7⟩; have B7 := Lib.hid hb7; clear hb7)
        | (at_builtin; refine wpList_appt rfl _ _ 23 25 rfl Tryd.underlying23 infoK (base := w3.heap.size) rfl (TRow.below (HRW.out.below B7.out) ((Below.refl _ _).alloc (Nat.le_refl _) _)) (t := .var x) (p := (none, 0)) (ad := ⟨w7.heap.size, 0, none⟩) (c := 1) rfl (cell_four_new _ _ _ _ _ _) (TyIs.mk_var HWF.out) (by have := B7.out.size; simp; omega) (by rw [oth_len]; omega) ?_; intro g9' cap9 w9 hr9 ht9))
      go_roundg (gk - 1)
      case measure => omega
      case rel => exact ⟨i + 1, by go_num, by omega, by rw [oth_succ, ← HX.out]; exact hr9, shown_next HBW.out HRW.out (oa B7.out _) ht9⟩
    · obtain rfl : i = h.length := by omega
      have B4 := Lib.hid (B3.out.below HBW.out)
      have T4 := Lib.hid (T3.out.up HBW.out)
      have T04 := Lib.hid (T03.out.up HBW.out)
      have R4 := Lib.hid (R3.out.below HBW.out)
      obtain ⟨ao4, cap4, hv4, k1, k2, k3, k4⟩ := HRW.out.kids
      injection hv4 with e1 e2 e3
      subst e1 e3
      obtain ⟨ts, hts⟩ : ∃ ts, ts = oth C h h.length := ⟨_, rfl⟩
      have hfx := oth_facts C t
      rw [← HH.out] at hfx
      rw [← hts] at k1 k4 hfx ⊢
      obtain ⟨y, hy⟩ : ∃ y, y = t.sub (swS h ts) := ⟨_, rfl⟩
      have HYZ : Hid (y.sz ≤ 60 ∧ y.short) := by
        have e : y = t.sub (Ty.ren (renF C h)) := by rw [hy, hts]; exact sub_oth fun n hn => by rw [HH.out]; exact (Ty.vrs_mem n t []).2 (.inr hn)
        rw [e]
        exact ⟨by rw [Ty.ren_sz]; exact HTN.out.2, Ty.ren_short _ _ HTN.out.1.1⟩
      have HTS : Hid (∀ u ∈ ts, u.sz ≤ 100000) := fun u hu => by
        rw [hts] at hu
        unfold oth at hu
        obtain ⟨j, _, rfl⟩ := List.mem_map.1 hu
        rw [Ty.sz]; omega
      have HSW := Lib.hid (swap_walk (h := h) (ts := ts) (xv := .slice a6 h.length p6) (ao2 := ar) (cap2 := cr) (P := fun b => b < wr.heap.size) k1 k2 (by omega) HTS.out t.sz t _ wr (Nat.le_refl _) (by have := HTN.out.2; omega) T4.out (fun b hb => hb) R4.out.ints (k4.mono fun b hb => hb.2))
      rw [← hy] at HSW hfx
      have HFX := Lib.hid hfx
      obtain ⟨c0', c1'', c2'', c3''⟩ := B4.out.at4 (b := w2.heap.size) (.head _)
      clear hy hfx hts k1 k2 k3 k4 c0 c1' c2' c3'
      unfold NewTy tval at HSW
      go_wp2_with (go_at_call 30; (with_reducible refine HSW.out.mono ?_); clear HSW; rintro e w5 ⟨a9, c9, rfl, ht9, hb9⟩; have T5 := Lib.hid (TyOf.new ht9); have B5 := Lib.hid hb9; clear ht9 hb9)
      have hB6 := (B4.out.below B5.out).box (agT y a9 c9) 25
      have hT6 := T5.out.up (oa (Below.refl w5.heap.size w5) (.cells (agT y a9 c9) 25))
      have hT46 := (T04.out.up B5.out).up (oa (Below.refl w5.heap.size w5) (.cells (agT y a9 c9) 25))
      have hT4x := (T4.out.up B5.out).up (oa (Below.refl w5.heap.size w5) (.cells (agT y a9 c9) 25))
      have hR6 := (R4.out.below B5.out).below (oa (Below.refl w5.heap.size w5) (.cells (agT y a9 c9) 25))
      unfold agT at hB6 hT6 hT46 hT4x hR6
      generalize w5.alloc (.cells #[.int .i64 y.op, .int .i64 y.num, .string y.text, .slice a9 y.kids.length c9] 25) = W6 at hB6 hT6 hT46 hT4x hR6 ⊢
      generalize w5.heap.size = b9 at hB6 ⊢
      generalize w2.heap.size = b5 at hB6 ⊢
      have B6 := Lib.hid hB6
      have TY6 := Lib.hid hT6
      have T06 := Lib.hid hT46
      have TX6 := Lib.hid hT4x
      have R6 := Lib.hid hR6
      clear hB6 hT6 hT46 hT4x hR6 HRW HBW B4 T4 T04 R4 B3 T3 T03 R3 B5 T5 hbs c0' c1'' c2'' c3''
      have HL : Hid (BakLoop W6 h h.length (.slice none 0 0) (.int .i64 0) W6) := ⟨0, rfl, by omega, by rw [List.take_zero]; exact TRow.nil _ _, Below.refl _ _⟩
      go_loopg [10, 11] h.length (fun gk s10 s11 wq => BakLoop W6 h gk s10 s11 wq)
      case atStart => exact HL.out
      case round =>
        clear HL
        obtain ⟨i, rfl, hik, hr, hb⟩ := hrel
        rename World => wq
        obtain ⟨aq, cq, rfl⟩ := hr.form
        have HRW := Lib.hid hr
        have HBW := Lib.hid hb
        have hbs := hb.size
        clear hr hb
        have g0 : (0 : Int) ≤ (i : Int) := by omega
        by_cases hlt : i < h.length
        · have g1 : (i : Int) < (h.length : Int) := by omega
          obtain ⟨x, hx⟩ : ∃ u, h[i]? = some u := ⟨_, List.getElem?_eq_getElem hlt⟩
          obtain ⟨g6, rfl, hg6, hcg⟩ := (R6.out.below HBW.out).at hx
          have hwf : (Lit.int .i64 x).wf = true := TyIs.num_wf t TX6.out (by
            have := List.mem_of_getElem? hx
            rw [HH.out] at this
            rcases (Ty.vrs_mem x t []).1 this with e | e
            · cases e
            · exact e)
          have HX := Lib.hid hx
          have HWF := Lib.hid hwf
          clear hx hwf
          go_wp2_with (first
            | (go_at_call 11; (with_reducible refine (var_any _ _).mono ?_); rintro e w7 ⟨rfl, hb7⟩; have B7 := Lib.hid hb7; clear hb7)
            | (at_builtin; refine wpList_appt rfl _ _ 23 25 rfl Tryd.underlying23 infoK (base := W6.heap.size) rfl (TRow.below (HRW.out.below B7.out) ((Below.refl _ _).alloc (Nat.le_refl _) _)) (t := .var x) (p := (none, 0)) (ad := ⟨w7.heap.size, 0, none⟩) (c := 1) rfl (cell_four_new _ _ _ _ _ _) (TyIs.mk_var HWF.out) (by have := B7.out.size; simp; omega) (by unfold bakL; simp; omega) ?_; intro g9' cap9 w9 hr9 ht9))
          go_roundg (gk - 1)
          case measure => omega
          case rel =>
            refine ⟨i + 1, by go_num, by omega, ?_, shown_next HBW.out HRW.out (oa B7.out _) ht9⟩
            have e : bakL (h.take (i + 1)) = bakL (h.take i) ++ [.var x] := by unfold bakL; rw [take_snoc HX.out, List.map_append]; rfl
            rw [e]
            exact hr9
        · obtain rfl : i = h.length := by omega
          obtain ⟨ao4, cap4, hv4, k1, k2, k3, k4⟩ := HRW.out.kids
          injection hv4 with e1 e2 e3
          subst e1 e3
          rw [List.take_length] at k1 k4 ⊢
          have B4 := Lib.hid (B6.out.below HBW.out)
          have TY4 := Lib.hid (TY6.out.up HBW.out)
          have T04 := Lib.hid (T06.out.up HBW.out)
          have TX4 := Lib.hid (TX6.out.up HBW.out)
          have K4 := Lib.hid (k4.mono (Q := fun b => b < wq.heap.size) fun b hb => hb.2)
          have HK := Lib.hid (And.intro k1 k2)
          obtain ⟨c0, c1', c2', c3'⟩ := B4.out.at4 (b := b9) (.head _)
          clear k1 k2 k3 k4 HRW B6 TY6 T06 TX6
          have HV : Hid (∀ W, Below wq.heap.size wq W → Calls Tryd.prog 26 #[.agg #[.int .i64 y.op, .int .i64 y.num, .string y.text, .slice a9 y.kids.length c9]] W fun e w' => ∃ a p, e = .returned (.slice a h.length p) ∧ IntsAt w' (.slice a h.length p) (h.map (renF C h)) ∧ Below W.heap.size W w') := fun W hW =>
            (vars_any y _ W _ (by have := HYZ.out.1; omega) (TY4.out.up hW) (fun b hb => hb)).mono fun e w' ⟨vo, he, hr, hb⟩ => by
              have hr := hr.ints
              rw [show y.vars = h.map (renF C h) from HFX.out.2.1] at hr
              obtain ⟨a, p, rfl, _, _⟩ := hr.form
              rw [List.length_map] at hr he
              exact ⟨a, p, he, hr, hb⟩
          have HZ : Hid (∀ W a p, Below wq.heap.size wq W → IntsAt W (.slice a h.length p) (h.map (renF C h)) → Calls Tryd.prog 30 #[.agg #[.int .i64 y.op, .int .i64 y.num, .string y.text, .slice a9 y.kids.length c9], .slice a h.length p, .slice aq (bakL h).length cq] W (NewTy W t)) := fun W a p hW hi => by
            have hh : ∀ u ∈ bakL h, u.sz ≤ 100000 := fun u hu => by
              unfold bakL at hu
              obtain ⟨j, _, rfl⟩ := List.mem_map.1 hu
              rw [Ty.sz]; omega
            have := swap_walk (h := h.map (renF C h)) (ts := bakL h) (xv := .slice a h.length p) (ao2 := aq) (cap2 := cq) (P := fun b => b < W.heap.size) HK.out.1 HK.out.2 (by rw [List.length_map]; omega) hh y.sz y _ W (Nat.le_refl _) (by have := HYZ.out.1; omega) (TY4.out.up hW) (fun b hb => hb) hi ((K4.out.below hW (fun b hb => hb)).mono fun b hb => Nat.lt_of_lt_of_le hb hW.size)
            rw [HFX.out.2.2] at this
            exact this
          have g9 : (h.length : Int) ≤ 9 := by omega
          unfold NewTy tval at HZ
          have HKP := Lib.hid (fun (W : World) (hW : Below wq.heap.size wq W) => (B4.out.below hW).at4 (b := b9) (.head _))
          go_upto_region 16 with fail
          go_cut [12] (fun s12 wx => RnmIn w b9 b5 b2 t y a9 c9 a3 c3 a2 c2 s12 wx)
          case first =>
            go_region_held3 (fun w' => w'.cell? ⟨b9, 0, none⟩ = some (.int .i64 y.op) ∧ w'.cell? ⟨b9, 1, none⟩ = some (.int .i64 y.num) ∧ w'.cell? ⟨b9, 2, none⟩ = some (.string y.text) ∧ w'.cell? ⟨b9, 3, none⟩ = some (.slice a9 y.kids.length c9))
              (first | (with_reducible refine HKP.out _ ?_; (with_reducible repeat (first | exact B8.out | exact B7.out | exact Below.refl _ _ | apply ba | apply bd | (refine bs ?_ (by first | exact Nat.le_refl _ | exact z7 | exact z8 | exact Nat.le_succ _ | exact Nat.le_succ_of_le z7 | exact Nat.le_succ_of_le z8) _)))) | go_keep)
              (first
                | (go_at_call 26; (with_reducible refine (HV.out _ ?_).mono ?_); · (with_reducible repeat (first | exact B8.out | exact B7.out | exact Below.refl _ _ | apply ba | apply bd | (refine bs ?_ (by first | exact Nat.le_refl _ | exact z7 | exact z8 | exact Nat.le_succ _ | exact Nat.le_succ_of_le z7 | exact Nat.le_succ_of_le z8) _)))
                   rintro e w7 ⟨a7, p7, rfl, hi7, hb7⟩; have B7 : Hid (Below wq.heap.size wq w7) := (bt (by (with_reducible repeat (first | exact B8.out | exact B7.out | exact Below.refl _ _ | apply ba | apply bd | (refine bs ?_ (by first | exact Nat.le_refl _ | exact z7 | exact z8 | exact Nat.le_succ _ | exact Nat.le_succ_of_le z7 | exact Nat.le_succ_of_le z8) _)))) hb7 : Below wq.heap.size wq w7); have z7 : wq.heap.size ≤ w7.heap.size := B7.out.size; obtain ⟨hc7, hf7⟩ := bcell hb7; (try (have k1 : wq.heap.size < w7.heap.size := by (have := hb7.size; first | omega | (simp at this; omega)))); have I7 := Lib.hid hi7; have C7 := Lib.hid hb7; clear hi7 hb7 HV)
                | (go_at_call 30; (with_reducible refine (HZ.out _ _ _ ?_ (ints_up I7.out ?_)).mono ?_); · (with_reducible repeat (first | exact B8.out | exact B7.out | exact Below.refl _ _ | apply ba | apply bd | (refine bs ?_ (by first | exact Nat.le_refl _ | exact z7 | exact z8 | exact Nat.le_succ _ | exact Nat.le_succ_of_le z7 | exact Nat.le_succ_of_le z8) _)))
                   · (with_reducible repeat (first | exact B8.out | exact B7.out | exact Below.refl _ _ | apply ba | apply bd | (refine bs ?_ (by first | exact Nat.le_refl _ | exact z7 | exact z8 | exact Nat.le_succ _ | exact Nat.le_succ_of_le z7 | exact Nat.le_succ_of_le z8) _)))
                   rintro e w8 ⟨a8, c8, rfl, ht8, hb8⟩; have B8 : Hid (Below wq.heap.size wq w8) := (bt (by (with_reducible repeat (first | exact B8.out | exact B7.out | exact Below.refl _ _ | apply ba | apply bd | (refine bs ?_ (by first | exact Nat.le_refl _ | exact z7 | exact z8 | exact Nat.le_succ _ | exact Nat.le_succ_of_le z7 | exact Nat.le_succ_of_le z8) _)))) hb8 : Below wq.heap.size wq w8); have z8 : wq.heap.size ≤ w8.heap.size := B8.out.size; have z78 : w7.heap.size ≤ w8.heap.size := (by have := hb8.size; first | omega | (simp at this; omega)); obtain ⟨hc8, hf8⟩ := bcell hb8; (try (have k3 : wq.heap.size < w8.heap.size := by (have := hb8.size; first | omega | (simp at this; omega)))); (try (have k5 : w7.heap.size < w8.heap.size := by (have := hb8.size; first | omega | (simp at this; omega)))); obtain ⟨A8, E8, T8⟩ := ty_out ht8; change Hid (TyIs _ _ _ (tval t a8 c8)) at T8; have C8 := Lib.hid hb8; clear ht8 hb8 HZ))
            all_goals go_wp2
            all_goals go_meet
            all_goals (
              have e8 := E8.out
              try simp only [World.size_alloc, World.size_drew] at e8
              with_reducible refine rnm_in (A := A8) (B := w8.heap.size) (a := a8) (c := c8) B4.out TY4.out TX4.out T04.out ?hb ?z12 ?hz ?hB
              case hb => (with_reducible repeat (first | exact B8.out | exact B7.out | exact Below.refl _ _ | apply ba | apply bd | (refine bs ?_ (by first | exact Nat.le_refl _ | exact z7 | exact z8 | exact Nat.le_succ _ | exact Nat.le_succ_of_le z7 | exact Nat.le_succ_of_le z8) _)))
              case z12 => (repeat (first | ((with_reducible refine z_new ?_); · (simp; done)) | (with_reducible refine z_set ?_) | ((with_reducible refine z_nes ?_ ?_); · omega) | (with_reducible refine z_old ?_) | (with_reducible refine z_below C8.out ?_) | (with_reducible refine z_below C7.out ?_) | (with_reducible refine z_drew ?_) | ((with_reducible refine f_new ?_); · (simp; done)) | ((with_reducible refine f_nes ?_ ?_); · omega) | (with_reducible refine f_old ?_) | (with_reducible refine f_below C8.out ?_) | (with_reducible refine f_below C7.out ?_) | (with_reducible refine f_drew ?_)))
              case hz => (repeat (first | (with_reducible exact T8.out) | ((with_reducible refine ty_sets ?_ ?_); · omega) | ((with_reducible refine ty_new ?_ ?_); · (first | omega | (simp; done) | (simp; omega))) | (with_reducible refine ty_drew ?_)))
              case hB => (first | exact Nat.le_refl _ | (simp; done)))
          case rest =>
            obtain ⟨b12, a12, c12, rfl, hB, hz, hy, hx, h0⟩ := hcut
            rename World => wx
            have BX := Lib.hid hB
            have Z5 := Lib.hid hz
            have Y5 := Lib.hid hy
            have X5 := Lib.hid hx
            have O5 := Lib.hid h0
            obtain ⟨e0, e1, e2, e3⟩ := hB.at4 (b := b12) (.head _)
            clear hB hz hy hx h0 HZ HV HKP TY4 TX4 T04 B4 K4 HK c0 c1' c2' c3'
            unfold agT at BX
            unfold tval at O5
            have HS : Hid (∀ (W : World) (u : Ty) (x : Value), TyOf W u x → u.sz ≤ 60 → u.short → (u.vrs []).length ≤ 26 → Calls Tryd.prog 28 #[x] W (ShowEnd W u.text')) := fun W u x h h1 h2 h3 => showAll_any (by omega) h2 h3 h (fun b hb => hb)
            have HY3 : Hid ((y.vrs []).length ≤ 26) := by show _ ≤ _; rw [HFX.out.2.1, List.length_map]; omega
            have HT3 : Hid ((t.vrs []).length ≤ 26) := by show _ ≤ _; rw [← HH.out]; omega
            have HV : Hid (∀ W, Below wx.heap.size wx W → Calls Tryd.prog 26 #[.agg #[.int .i64 y.op, .int .i64 y.num, .string y.text, .slice a9 y.kids.length c9]] W fun e w' => ∃ a p, e = .returned (.slice a h.length p) ∧ Below W.heap.size W w') := fun W hW =>
              (vars_any y _ W _ (by have := HYZ.out.1; omega) (Y5.out.up hW) (fun b hb => hb)).mono fun e w' ⟨vo, he, hr, hb⟩ => by
                obtain ⟨a, p, rfl, _, _⟩ := hr.form
                rw [show y.vars = h.map (renF C h) from HFX.out.2.1, List.length_map] at he
                exact ⟨a, p, he, hb⟩
            have HF : Hid (∀ W, Below wx.heap.size wx W → Calls Tryd.prog 22 #[.agg #[.int .i64 t.op, .int .i64 t.num, .string t.text, .slice a12 t.kids.length c12]] W (NewTy W t)) := fun W hW => from_walk t.sz t _ W _ (Nat.le_refl _) (by have := HTN.out.2; omega) (Z5.out.up hW) (fun b hb => hb)
            have HSM : Hid (∀ W va vb, TyOf W t va → TyOf W t vb → Calls Tryd.prog 21 #[va, vb] W fun e w' => e = .returned (.bool true) ∧ Below W.heap.size W w') := fun W va vb h1 h2 => by
              have := refSame_walk t.sz t t va vb W _ (Nat.le_refl _) h1 h2 (fun b hb => hb)
              rw [Ty.same_refl] at this
              exact this
            have HTX : Hid (y.text' = t.text') := HFX.out.1
            unfold ShowEnd at HS
            unfold NewTy tval at HF
            obtain ⟨xs, hxs⟩ : ∃ xs, xs = t.text' := ⟨_, rfl⟩
            have HXS := Lib.hid hxs
            clear hxs
            have HS9 : Hid (∀ W, Below wx.heap.size wx W → Calls Tryd.prog 28 #[.agg #[.int .i64 y.op, .int .i64 y.num, .string y.text, .slice a9 y.kids.length c9]] W fun e w' => e = .returned (.string xs) ∧ Below W.heap.size W w') := fun W hW => by
              have := HS.out W y _ (Y5.out.up hW) HYZ.out.1 HYZ.out.2 HY3.out
              rw [HTX.out, ← HXS.out] at this
              exact this
            have HS5 : Hid (∀ W, Below wx.heap.size wx W → Calls Tryd.prog 28 #[.agg #[.int .i64 t.op, .int .i64 t.num, .string t.text, .slice a3 t.kids.length c3]] W fun e w' => e = .returned (.string xs) ∧ Below W.heap.size W w') := fun W hW => by
              have := HS.out W t _ (X5.out.up hW) HTN.out.2 HTN.out.1.1 HT3.out
              rw [← HXS.out] at this
              exact this
            have HKP := Lib.hid (fun (W : World) (hW : Below wx.heap.size wx W) => rnm_cells (BX.out.below hW))
            have hlb : ((h.length : Int) == (h.length : Int)) = true := beq_self_eq_true _
            have HKI := Lib.hid (fun W => kinds_any W)
            clear HS
            go_upto_region 17 with fail
            go_region_held3 (fun w' => (w'.cell? ⟨b12, 0, none⟩ = some (.int .i64 t.op) ∧ w'.cell? ⟨b12, 1, none⟩ = some (.int .i64 t.num) ∧ w'.cell? ⟨b12, 2, none⟩ = some (.string t.text) ∧ w'.cell? ⟨b12, 3, none⟩ = some (.slice a12 t.kids.length c12)) ∧ (w'.cell? ⟨b9, 0, none⟩ = some (.int .i64 y.op) ∧ w'.cell? ⟨b9, 1, none⟩ = some (.int .i64 y.num) ∧ w'.cell? ⟨b9, 2, none⟩ = some (.string y.text) ∧ w'.cell? ⟨b9, 3, none⟩ = some (.slice a9 y.kids.length c9)) ∧ (w'.cell? ⟨b5, 0, none⟩ = some (.int .i64 t.op) ∧ w'.cell? ⟨b5, 1, none⟩ = some (.int .i64 t.num) ∧ w'.cell? ⟨b5, 2, none⟩ = some (.string t.text) ∧ w'.cell? ⟨b5, 3, none⟩ = some (.slice a3 t.kids.length c3)) ∧ (w'.cell? ⟨b2, 0, none⟩ = some (.int .i64 t.op) ∧ w'.cell? ⟨b2, 1, none⟩ = some (.int .i64 t.num) ∧ w'.cell? ⟨b2, 2, none⟩ = some (.string t.text) ∧ w'.cell? ⟨b2, 3, none⟩ = some (.slice a2 t.kids.length c2)))
              (with_reducible (first | exact HKP.out _ D6.out | exact HKP.out _ D5.out | exact HKP.out _ D4.out | exact HKP.out _ D3.out | exact HKP.out _ D2.out | exact HKP.out _ D1.out | exact HKP.out _ (bd (Below.refl _ _)) | go_keep))
              (first
                | (go_at_call 12; (with_reducible refine (HKI.out _).mono ?_); rintro e v1 ⟨rfl, hb⟩; have D1 := Lib.hid (bt (bd (Below.refl wx.heap.size wx)) hb); clear hb)
                | (go_at_call 28; (with_reducible refine (HS9.out _ D1.out).mono ?_); clear HS9; rintro e v2 ⟨rfl, hb⟩; have D2 := Lib.hid (bt D1.out hb); clear hb)
                | (go_at_call 28; (with_reducible refine (HS5.out _ D2.out).mono ?_); clear HS5; rintro e v3 ⟨rfl, hb⟩; have D3 := Lib.hid (bt D2.out hb); clear hb)
                | (go_at_call 26; (with_reducible refine (HV.out _ D3.out).mono ?_); clear HV; rintro e v4 ⟨a4', p4', rfl, hb⟩; have D4 := Lib.hid (bt D3.out hb); clear hb)
                | (go_at_call 22; (with_reducible refine (HF.out _ D4.out).mono ?_); clear HF; rintro e v5 ⟨a5', p5', rfl, ht, hb⟩; have T5' := Lib.hid (TyOf.new ht); have D5 := Lib.hid (bt D4.out hb); clear ht hb)
                | (go_at_call 21; (with_reducible refine (HSM.out _ _ _ T5'.out (O5.out.up D5.out)).mono ?_); rintro e v6 ⟨rfl, hb⟩; have D6 := Lib.hid (bt D5.out hb); clear hb))
            all_goals go_wp2
            all_goals go_ret
            all_goals exact ⟨rfl, bt BX.out.hb D6.out⟩
end Go.Proofs.YthchkekegkhanaaDoor
