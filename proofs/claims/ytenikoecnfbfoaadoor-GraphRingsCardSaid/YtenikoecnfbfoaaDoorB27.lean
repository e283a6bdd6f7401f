/- Texts of the proof, in build order: GrMake, GrText, GrGraphP, GrTextR, GrSame, GrGraphs, GrRings. -/
import Derived.Test.YtenikoecnfbfoaaDoorB24
import Derived.Test.YtenikoecnfbfoaaDoorB26
import Derived.Test.YtenikoecnfbfoaaDoorB06
import Derived.Sort.CutIn
import Derived.Test.YtenikoecnfbfoaaDoorB23
import Derived.Test.YtenikoecnfbfoaaDoorB18
import Derived.Test.YtenikoecnfbfoaaDoorB20
import Derived.Shelf.SlicesQ.Equal
import Derived.Test.YtenikoecnfbfoaaDoorB22
/- Layer 8: the program's Make. -/
namespace Go.Proofs.YtenikoecnfbfoaaDoor
open Go.RowKit Go.Shelf Go.Maps
set_option linter.unusedVariables false
set_option linter.unusedSimpArgs false
attribute [local go_sem] Oper.semAt_some
open Gr (RT GT dirT sortO makeT meetT bfs findO numOf pairs)

/-- A slice that reads as values. -/
def VsAt (w : World) (v : Value) (l : List VT) : Prop := ∃ ao cap, v = .slice ao l.length cap ∧ l.length ≤ cap ∧ cap ≤ maxLen ∧ (ao = none → cap = 0) ∧ KidsAt w (fun b => b < w.heap.size) l ao 0
theorem VsAt.nil (w : World) : VsAt w (.slice none 0 0) [] := ⟨none, 0, rfl, Nat.le_refl _, by unfold maxLen; omega, fun _ => rfl, by unfold KidsAt; trivial⟩
theorem rtAt_nil (w : World) : RtAt w (.slice none 0 0) [] := (RtRow.nil 36 w 0).at_
/-- Make, ended. -/
def MakeEnd (w : World) (r : GT × Int) (e : Ending) (w' : World) : Prop :=
  ∃ vr vo, e = .returned (.tuple #[.agg #[vr, vo], .int .i64 r.2]) ∧ RtAt w' vr r.1.roots ∧ VsAt w' vo r.1.objs ∧ Below w.heap.size w w'
theorem cells2 {w : World} {b : Nat} {x0 x1 : Value} {T : TypeId} (h : w.heap[b]? = some (.cells #[x0, x1] T (0, 0))) : w.cell? ⟨b, 0, none⟩ = some x0 ∧ w.cell? ⟨b, 1, none⟩ = some x1 ∧ (∀ j, w.frozen? ⟨b, j, none⟩ = false) :=
  ⟨by simp [World.cell?, h], by simp [World.cell?, h], fun j => by simp [World.frozen?, h]⟩
theorem cells1 {w : World} {b : Nat} {x0 : Value} {T : TypeId} (h : w.heap[b]? = some (.cells #[x0] T (0, 0))) : w.cell? ⟨b, 0, none⟩ = some x0 ∧ (∀ j, w.frozen? ⟨b, j, none⟩ = false) :=
  ⟨by simp [World.cell?, h], fun j => by simp [World.frozen?, h]⟩
theorem two_new (w w2 : World) (A B : Array Value) (T U : TypeId) (hb : Below ((w.alloc (.cells A T)).alloc (.cells B U)).heap.size ((w.alloc (.cells A T)).alloc (.cells B U)) w2) : w2.heap[w.heap.size]? = some (.cells A T (0, 0)) ∧ w2.heap[w.heap.size + 1]? = some (.cells B U (0, 0)) ∧ Below w.heap.size w w2 ∧ w.heap.size + 2 ≤ w2.heap.size := by
  have h2 := World.alloc_heap_new (w.alloc (.cells A T)) (.cells B U)
  rw [World.size_alloc] at h2
  have h1 := (Below.heap_alloc (w.alloc (.cells A T)) (.cells B U) w.heap.size (by simp)).trans (World.alloc_heap_new w (.cells A T))
  have hs := hb.size
  simp only [World.size_alloc] at hs
  exact ⟨(hb.block _ (by simp; omega)).trans h1, (hb.block _ (by simp)).trans h2, (((Below.refl _ _).alloc (Nat.le_refl _) _).alloc (by simp) _).trans (hb.mono (by simp; omega)), by omega⟩
structure MkI (w : World) (b0 : Nat) (vo : Value) {obs : List OB} (objs : List (Int × VT)) (pre : List (PO obs)) (W : World) : Prop where
  bH : W.heap[w.heap.size]? = some (.cells #[.slice none 0 0, .slice none 0 0] 31 (0, 0))
  bE : W.heap[w.heap.size + 1]? = some (.cells #[.int .i64 0] 32 (0, 0))
  bW : W.heap[b0 + 1 + 1 + 1]? = some (.cells #[.map (some (b0 + 1)), .map (some (b0 + 1 + 1)), .slice none 0 0, .slice none 0 0] 48 (0, 0))
  bP : W.heap[b0 + 1 + 1 + 1 + 1]? = some (.cells #[.pointer (some ⟨b0 + 1 + 1 + 1, 0, none⟩)] 42 (0, 0))
  bS : W.heap[b0 + 1 + 1 + 1 + 1 + 1]? = some (.cells #[vo] 23 (0, 0))
  va : VMap Tryd.prog 3 W (b0 + 1) pre.length (allM pre)
  nm : NMap Tryd.prog 3 3 W (b0 + 1 + 1) 0 (fun _ => none)
  ok : ∀ x ∈ pre, ∀ o, objs[x.1.1]? = some o → encErr o.2 = 0
  bl : Below w.heap.size w W
  sz : w.heap.size + 2 ≤ b0
mutual
theorem valIs_inj {w : World} {P Q : Nat → Prop} : ∀ (t t' : VT) (v : Value), ValIs w P t v → ValIs w Q t' v → t = t'
  | .node k n s l, .node k' n' s' l', v, h, h' => by
    unfold ValIs at h h'
    obtain ⟨ao, cap, rfl, _, _, _, _, _, _, hk⟩ := h
    obtain ⟨ao', cap', e, _, _, _, _, _, _, hk'⟩ := h'
    have e := congrArg (fun v => match v with | Value.agg a => a.toList | _ => []) e
    simp only [List.cons.injEq, Value.int.injEq, Value.string.injEq, Value.slice.injEq, true_and, and_true] at e
    obtain ⟨rfl, rfl, rfl, rfl, hl, rfl⟩ := e
    rw [kids_inj l l' ao 0 hl hk hk']
theorem kids_inj {w : World} {P Q : Nat → Prop} : ∀ (l l' : List VT) (ao : Option Addr) (j : Nat), l.length = l'.length → KidsAt w P l ao j → KidsAt w Q l' ao j → l = l'
  | [], [], _, _, _, _, _ => rfl
  | [], _ :: _, _, _, h, _, _ => by cases h
  | _ :: _, [], _, _, h, _, _ => by cases h
  | t :: l, t' :: l', ao, j, hl, h, h' => by
    unfold KidsAt at h h'
    obtain ⟨⟨b, off, x0, x1, x2, x3, rfl, _, c0, c1, c2, c3, hv⟩, hr⟩ := h
    obtain ⟨⟨b', off', y0, y1, y2, y3, e, _, d0, d1, d2, d3, hv'⟩, hr'⟩ := h'
    cases e
    rw [c0] at d0
    rw [c1] at d1
    rw [c2] at d2
    rw [c3] at d3
    cases d0
    cases d1
    cases d2
    cases d3
    rw [valIs_inj t t' _ hv hv', kids_inj l l' _ (j + 1) (by simpa using hl) hr hr']
end
theorem MkI.chg {w W W' : World} {b0 : Nat} {vo : Value} {obs : List OB} {objs : List (Int × VT)} {pre : List (PO obs)} {F : List Nat} (h : MkI w b0 vo objs pre W) (hc : Chg F W W') (hF : ∀ k ∈ F, b0 + 1 + 1 + 1 + 1 + 1 < k) : MkI w b0 vo objs pre W' := by
  have hn : ∀ k, k ≤ b0 + 1 + 1 + 1 + 1 + 1 → k ∉ F := fun k hk hm => by have := hF k hm; omega
  have hs := h.sz
  exact ⟨(hc.block _ (lt_of_block h.bH) (hn _ (by omega))).trans h.bH, (hc.block _ (lt_of_block h.bE) (hn _ (by omega))).trans h.bE, (hc.block _ (lt_of_block h.bW) (hn _ (by omega))).trans h.bW, (hc.block _ (lt_of_block h.bP) (hn _ (by omega))).trans h.bP, (hc.block _ (lt_of_block h.bS) (hn _ (by omega))).trans h.bS,
    h.va.chg hc (hn _ (by omega)), h.nm.chg hc (hn _ (by omega)), h.ok, h.bl.trans (hc.below (by have := lt_of_block h.bH; omega) (fun k hk => by have := hF k hk; omega)), hs⟩
theorem MkI.start (w w2 : World) (vo : Value) (obs : List OB) (objs : List (Int × VT)) (A : Array Value) (zH : w2.heap[w.heap.size]? = some (.cells #[.slice none 0 0, .slice none 0 0] 31 (0, 0))) (zE : w2.heap[w.heap.size + 1]? = some (.cells #[.int .i64 0] 32 (0, 0))) (hb : Below w.heap.size w w2) (hs : w.heap.size + 2 ≤ w2.heap.size) :
    MkI w w2.heap.size vo objs ([] : List (PO obs)) ((((((w2.alloc (.cells A 26)).alloc (.map #[] 0)).alloc (.map #[] 0)).alloc (.cells #[.map (some (w2.heap.size + 1)), .map (some (w2.heap.size + 1 + 1)), .slice none 0 0, .slice none 0 0] 48)).alloc (.cells #[.pointer (some ⟨w2.heap.size + 1 + 1 + 1, 0, none⟩)] 42)).alloc (.cells #[vo] 23)) := by
  have a1 : ∀ (X : World) (o : Obj) (k : Nat) (b : Obj), X.heap[k]? = some b → (X.alloc o).heap[k]? = some b := fun X o k b h => (Below.heap_alloc X o k (Array.getElem?_eq_some_iff.1 h).1).trans h
  have n1 := World.alloc_heap_new
  have va : VMap Tryd.prog 3 ((w2.alloc (.cells A 26)).alloc (.map #[] 0)) (w2.heap.size + 1) 0 (fun _ => none) := by
    have := VMap.made (P := Tryd.prog) (K := 3) (w2.alloc (.cells A 26))
    rw [World.size_alloc] at this
    exact this
  have nm : NMap Tryd.prog 3 3 (((w2.alloc (.cells A 26)).alloc (.map #[] 0)).alloc (.map #[] 0)) (w2.heap.size + 1 + 1) 0 (fun _ => none) := by
    have := NMap.made (P := Tryd.prog) (K := 3) (E := 3) ((w2.alloc (.cells A 26)).alloc (.map #[] 0))
    rw [World.size_alloc, World.size_alloc] at this
    exact this
  have e3 := n1 (((w2.alloc (.cells A 26)).alloc (.map #[] 0)).alloc (.map #[] 0)) (.cells #[.map (some (w2.heap.size + 1)), .map (some (w2.heap.size + 1 + 1)), .slice none 0 0, .slice none 0 0] 48)
  have e4 := n1 ((((w2.alloc (.cells A 26)).alloc (.map #[] 0)).alloc (.map #[] 0)).alloc (.cells #[.map (some (w2.heap.size + 1)), .map (some (w2.heap.size + 1 + 1)), .slice none 0 0, .slice none 0 0] 48)) (.cells #[.pointer (some ⟨w2.heap.size + 1 + 1 + 1, 0, none⟩)] 42)
  have e5 := n1 (((((w2.alloc (.cells A 26)).alloc (.map #[] 0)).alloc (.map #[] 0)).alloc (.cells #[.map (some (w2.heap.size + 1)), .map (some (w2.heap.size + 1 + 1)), .slice none 0 0, .slice none 0 0] 48)).alloc (.cells #[.pointer (some ⟨w2.heap.size + 1 + 1 + 1, 0, none⟩)] 42)) (.cells #[vo] 23)
  simp only [World.size_alloc] at e3 e4 e5
  exact ⟨a1 _ _ _ _ (a1 _ _ _ _ (a1 _ _ _ _ (a1 _ _ _ _ (a1 _ _ _ _ (a1 _ _ _ _ zH))))), a1 _ _ _ _ (a1 _ _ _ _ (a1 _ _ _ _ (a1 _ _ _ _ (a1 _ _ _ _ (a1 _ _ _ _ zE))))), a1 _ _ _ _ (a1 _ _ _ _ e3), a1 _ _ _ _ e4, e5,
    va.chg ((((Chg.refl [] _).alloc _).alloc _).alloc _ |>.alloc _) (by simp), nm.chg (((Chg.refl [] _).alloc _).alloc _ |>.alloc _) (by simp), (fun x hx => by cases hx),
    hb.trans ((((((((Chg.refl [] w2).alloc _).alloc _).alloc _).alloc _).alloc _).alloc _).below hb.size (by simp)), hs⟩
def MkX (w : World) (objs : List (Int × VT)) (c : Code) (W : World) : Prop :=
  c = .ret ∧ W.heap[w.heap.size]? = some (.cells #[.slice none 0 0, .slice none 0 0] 31 (0, 0)) ∧ W.heap[w.heap.size + 1]? = some (.cells #[.int .i64 2] 32 (0, 0)) ∧ (∃ o ∈ objs, encErr o.2 ≠ 0) ∧ Below w.heap.size w W
theorem MkX.own {w A B : World} {objs : List (Int × VT)} {c : Code} {row : Option Nat} (h : MkX w objs c A) (hg : A.grownBy B row) (hr : ∀ r, row = some r → w.heap.size + 2 ≤ r) : MkX w objs c B := by
  obtain ⟨h1, h2, h3, h4, h5⟩ := h
  have hc : Chg row.toList A B := (Chg.refl _ A).grown hg (fun k hk => .inl (by simp [hk]))
  have hn : ∀ k ∈ row.toList, w.heap.size + 2 ≤ k := fun k hk => hr k (by simpa using hk)
  exact ⟨h1, (hc.block _ (lt_of_block h2) (fun hm => by have := hn _ hm; omega)).trans h2, (hc.block _ (lt_of_block h3) (fun hm => by have := hn _ hm; omega)).trans h3, h4, h5.trans (hc.below (Nat.le_of_lt (lt_of_block h2)) (fun k hk => by have := hn k hk; omega))⟩
set_option maxRecDepth 100000 in
set_option maxHeartbeats 8000000 in
theorem make_dir (w : World) (vr vo : Value) (roots : List RT) (objs : List (Int × VT)) (hr : RtAt w vr roots) (hl : roots.length ≤ 1000000) (hgd : ∀ r ∈ roots, Gd r) (er : Int) (her : (dirT roots).2 = er) (h0 : er ≠ 0) :
    Calls Tryd.prog 4 #[vr, vo] w (MakeEnd w (makeT roots objs)) := by
  have hmk : makeT roots objs = (⟨[], []⟩, er) := by unfold makeT; rw [her, if_pos h0]
  rw [hmk]
  have HD := Lib.hid (fun W (hW : Below w.heap.size w W) => dir_any W vr roots (hr.below hW) hl hgd)
  have HER := Lib.hid her
  have k1 : (er == 0) = false := by simpa using h0
  have k2 : (er != 0) = true := by simpa using h0
  clear hmk her h0 hr hgd
  go_enter Tryd.func4, Tryd.ntmps4
  go_wp2_with (go_at_call 7; refine (HD.out _ (((Below.refl _ _).alloc (Nat.le_refl _) _).alloc (by simp) _)).mono ?_; rintro e w2 ⟨vd, rfl, hvd, hb2⟩; obtain ⟨ad, cd, rfl⟩ := hvd.form; rw [HER.out]; have HB2 := Lib.hid hb2; obtain ⟨zH, zE, hbw, hs2⟩ := two_new _ _ _ _ _ _ hb2; have ZH := Lib.hid zH; have ZE := Lib.hid zE; have HBW := Lib.hid hbw; have k3 := (fun o : Obj => cells2 ((Below.heap_alloc w2 o _ (lt_of_block zH)).trans zH)); have k4 := (fun o : Obj => cells1 ((Below.heap_alloc w2 o _ (lt_of_block zE)).trans zE)); clear hvd hb2 zH zE hbw; unfold vval)
  obtain ⟨r1, r2, r3⟩ := res_set (a' := .slice none 0 0) (b' := .slice none 0 0) (c' := .int .i64 er) ((Below.heap_alloc w2 (.cells #[.int .i64 (dirT roots).1.kind, .int .i64 (dirT roots).1.num, .string (dirT roots).1.text, .slice ad (dirT roots).1.kids.length cd] 26) _ (lt_of_block ZH.out)).trans ZH.out) ((Below.heap_alloc w2 _ _ (lt_of_block ZE.out)).trans ZE.out)
  obtain ⟨y0, y1, _⟩ := cells2 r1
  obtain ⟨y2, _⟩ := cells1 r2
  refine bodyPost_ret (v := .tuple #[.agg #[.slice none 0 0, .slice none 0 0], .int .i64 er]) (by simp [results, Tryd.results4, go_sem, y0, y1, y2]) rfl ?_
  exact ⟨_, _, rfl, rtAt_nil _, VsAt.nil _, (HBW.out.alloc HBW.out.size _).trans (r3.below (by have := HBW.out.size; simp; omega) (by simp))⟩
set_option maxRecDepth 100000 in
set_option maxHeartbeats 8000000 in
theorem make_rest (w : World) (vr vo : Value) (roots s : List RT) (obs : List OB) (objs : List (Int × VT)) (hr : RtAt w vr roots) (hl : roots.length ≤ 1000000) (hgd : ∀ r ∈ roots, Gd r) (h0 : (dirT roots).2 = 0) (hs : sortO roots [] = some s) (hsl : s.length ≤ 100)
    (ho : ObAt w vo obs) (hoi : ObsIs w (fun b => b < w.heap.size) obs objs) (hol : objs.length ≤ 100) (hsz : ∀ o ∈ objs, o.2.sz ≤ 1000) :
    Calls Tryd.prog 4 #[vr, vo] w (MakeEnd w (makeT roots objs)) := by
  have HD := Lib.hid (fun W (hW : Below w.heap.size w W) => dir_any W vr roots (hr.below hW) hl hgd)
  have HSO := Lib.hid (fun W (hW : Below w.heap.size w W) => sorted_any W vr roots (hr.below hW) hl (gd_sizes hgd))
  have HER := Lib.hid h0
  have HS := Lib.hid hs
  have HSL := Lib.hid hsl
  have HO := Lib.hid ho
  have HOI := Lib.hid hoi
  have HOL := Lib.hid hol
  have HSZ := Lib.hid hsz
  have HGW : Hid (∀ r ∈ s, (Lit.int .i64 r.id).wf = true) := fun r hr => by have h := (Gr.sortO_some .nil hs).2.1.mem_iff.1 hr; rw [List.append_nil] at h; exact (hgd r h).2.2
  obtain ⟨ao, co, rfl, _⟩ := ho
  have hmm := @run_makeMap Tryd.prog
  clear h0 hs hsl hoi hol hsz hr hl hgd
  refine (callsIn_wide (n := 6)).1 ?_
  refine callsIn_of_wp_marks Tryd.func4 rfl trivial ?_ rfl
  simp only [Tryd.ntmps4, List.size_toArray, List.length_cons, List.length_nil, Nat.reduceAdd, Nat.reduceSub, Array.replicate_succ, Array.replicate_zero, List.push_toArray, List.append_toArray, List.nil_append, List.cons_append]
  gi_wp2_with (first
    | (refine ⟨trivial, ?_⟩; gi_at_call 7; refine (callsIn_wide.2 (HD.out _ (((Below.refl _ _).alloc (Nat.le_refl _) _).alloc (by simp) _))).mono ?_; rintro e w2 ⟨vd, rfl, hvd, hb2⟩; obtain ⟨ad, cd, rfl⟩ := hvd.form; rw [HER.out]; obtain ⟨zH, zE, hbw, hs2⟩ := two_new _ _ _ _ _ _ hb2; have ZH := Lib.hid zH; have ZE := Lib.hid zE; have HBW := Lib.hid hbw; have HS2 := Lib.hid hs2; clear hvd hb2 zH zE hbw hs2; unfold vval)
    | (refine ⟨trivial, ?_⟩; gi_at_call 8; refine (backwardO_in Fence.wide _ trivial rfl _ _ _ _).mono ?_; rintro e w' ⟨rfl, rfl⟩))
  generalize (dirT roots).1.kind = dk at *
  generalize (dirT roots).1.num = dn at *
  generalize (dirT roots).1.text = dt at *
  generalize (dirT roots).1.kids.length = dl at *
  have h0 := MkI.start w w2 (.slice ao obs.length co) obs objs #[.int .i64 dk, .int .i64 dn, .string dt, .slice ad dl cd] ZH.out ZE.out HBW.out HS2.out
  have hsz0 : ((((((w2.alloc (.cells #[.int .i64 dk, .int .i64 dn, .string dt, .slice ad dl cd] 26)).alloc (.map #[] 0)).alloc (.map #[] 0)).alloc (.cells #[.map (some (w2.heap.size + 1)), .map (some (w2.heap.size + 1 + 1)), .slice none 0 0, .slice none 0 0] 48)).alloc (.cells #[.pointer (some ⟨w2.heap.size + 1 + 1 + 1, 0, none⟩)] 42)).alloc (.cells #[.slice ao obs.length co] 23)).heap.size = w2.heap.size + 1 + 1 + 1 + 1 + 1 + 1 := by simp
  generalize ((((((w2.alloc (.cells #[.int .i64 dk, .int .i64 dn, .string dt, .slice ad dl cd] 26)).alloc (.map #[] 0)).alloc (.map #[] 0)).alloc (.cells #[.map (some (w2.heap.size + 1)), .map (some (w2.heap.size + 1 + 1)), .slice none 0 0, .slice none 0 0] 48)).alloc (.cells #[.pointer (some ⟨w2.heap.size + 1 + 1 + 1, 0, none⟩)] 42)).alloc (.cells #[.slice ao obs.length co] 23)) = W0 at h0 hsz0 ⊢
  have H0 := Lib.hid h0
  have HS0 := Lib.hid hsz0
  have hob0 := HO.out.below h0.bl
  have hoin : ∀ a n c, Value.slice ao obs.length co = .slice (some a) n c → a.block < w.heap.size := fun a n c e => by
    obtain ⟨ao', cap', e', _, _, _, h5, _⟩ := HO.out
    cases e'
    cases e
    exact (h5 _ _ _ rfl).2
  have hol2 : obs.length ≤ 1000000 := by have := HOI.out.1; have := HOL.out; omega
  refine wpIn_rangeFunc_ownH rfl (by omega) (gf := 19) (lb := #[.pointer (some ⟨w2.heap.size + 1 + 1 + 1 + 1 + 1, 0, none⟩)]) rfl trivial (enters_of Tryd.func19 (by kernel_rfl) rfl)
    (backO_stops Fence.wide _ trivial rfl (by omega) (w2.heap.size + 1 + 1 + 1 + 1 + 1) w.heap.size (.slice ao obs.length co) obs hol2 W0 (by omega) (by have := HS2.out; omega) (by have := h0.bS; simp [World.cell?, this]) hob0 hoin) kpB_t (kpB_b (by have := HS2.out; omega) (by omega)) (Below.refl _ _) (fun _ => rfl)
    (fun pre W => MkI w w2.heap.size (.slice ao obs.length co) objs pre W)
    (fun c _ W => MkX w objs c W)
    (fun pre A B row hs hg hr => hs.chg (F := row.toList) ((Chg.refl _ A).grown hg (fun k hk => .inl (by simp [hk]))) (fun k hk => by have := (hr k (by simpa using hk)).1; omega))
    (fun c pre A B row hs hg hr => hs.own hg (fun r e => by have := (hr r e).1; have := HS2.out; omega))
    h0
    (fun x a' W => ∃ Bx, W0.heap.size ≤ Bx ∧ W.heap[Bx]? = some (.cells #[.int .i64 x.1.2.id, .int .i64 x.1.2.k, .int .i64 x.1.2.n, .string x.1.2.s, .slice x.1.2.ao x.1.2.len x.1.2.cap] 28 (0, 0)) ∧ a' = { tmps := #[vr, .slice ao obs.length co, undef, undef, .pointer (some ⟨w.heap.size, 0, none⟩), .pointer (some ⟨w.heap.size + 1, 0, none⟩), .pointer (some ⟨w2.heap.size, 0, none⟩), .int .i64 0, .pointer (some ⟨w2.heap.size + 1 + 1 + 1 + 1, 0, none⟩), undef, .pointer (some ⟨Bx, 0, none⟩), undef, undef, undef, undef, undef, undef, undef, undef, undef, undef, undef, undef, undef, .tuple #[.agg #[.int .i64 dk, .int .i64 dn, .string dt, .slice ad dl cd], .int .i64 0], vr, .tuple #[.agg #[.int .i64 dk, .int .i64 dn, .string dt, .slice ad dl cd], .int .i64 0], .agg #[.int .i64 dk, .int .i64 dn, .string dt, .slice ad dl cd], .int .i64 0, .int .i64 0, .bool false, undef, undef, .map (some (w2.heap.size + 1)), .map (some (w2.heap.size + 1 + 1)), .agg #[.map (some (w2.heap.size + 1)), .map (some (w2.heap.size + 1 + 1)), .slice none 0 0, .slice none 0 0], .pointer (some ⟨w2.heap.size + 1 + 1 + 1, 0, none⟩), .slice ao obs.length co, .func (.func 19) #[] #[.pointer (some ⟨w2.heap.size + 1 + 1 + 1 + 1 + 1, 0, none⟩)], .int .i64 (x.1.1 : Int), .agg #[.int .i64 x.1.2.id, .int .i64 x.1.2.k, .int .i64 x.1.2.n, .string x.1.2.s, .slice x.1.2.ao x.1.2.len x.1.2.cap], undef, undef, undef, undef, undef, undef, undef, undef, undef, undef, undef, undef, undef, undef, undef, undef, undef, undef, undef, undef, undef, undef, undef, undef, undef, undef, undef, undef, undef, undef, undef, undef, undef, undef, undef, undef, undef, undef, undef, undef, undef, undef, undef, undef, undef, undef, undef, undef, undef, undef, undef, undef, undef, undef, undef, undef, undef, undef, undef, undef, undef, undef, undef, undef, undef, undef, undef, undef, undef, undef, undef, undef, undef, undef, undef, undef, undef, undef, undef, undef, undef, undef, undef, undef, undef, undef, undef, undef, undef, undef, undef, undef, undef, undef, undef, undef, undef, undef, undef, undef, undef, undef, undef, undef, undef, undef, undef, undef, undef], defers := [] })
    (fun x a' _ X Y row hs hg hr => by obtain ⟨Bx, h1, h2, h3⟩ := hs; exact ⟨Bx, h1, (hg.block Bx (lt_of_block h2) (fun e => by obtain ⟨_, o, ho, hc⟩ := hr _ e.symm; rw [h2] at ho; cases ho; cases hc)).trans h2, h3⟩)
    ?assign ?body ?done ?stop
  case assign =>
    rintro l pre x W K hI hK
    dsimp only [encO]
    have hW : W0.heap.size ≤ W.heap.size := by have := lt_of_block hI.bS; omega
    gi_wp2
    exact hK _ _ ((KeepsOthers.alloc _ _).from _) ⟨(Below.refl _ W).alloc (by have := HS2.out; omega) _, Below.heap_alloc _ _ _ (by omega)⟩ (hI.chg ((Chg.refl [] W).alloc _) (by simp)) ⟨W.heap.size, hW, World.alloc_heap_new _ _, rfl⟩
  case body =>
    rintro l pre x a' W hl ⟨r, hr⟩ hI ⟨Bx, hBx, bX, rfl⟩ hlt
    obtain ⟨o, ho⟩ : ∃ o, objs[x.1.1]? = some o := ⟨_, List.getElem?_eq_getElem (by rw [← HOI.out.1]; exact (List.getElem?_eq_some_iff.1 x.2).1)⟩
    obtain ⟨hid, hvx, hwf⟩ := HOI.out.2 _ _ _ x.2 ho
    have HI := Lib.hid hI
    have HX := Lib.hid ho
    have HWF := Lib.hid hwf
    have HCK := Lib.hid (check_any o.2 (obV x.1.2) W (fun b => b < w.heap.size) (hvx.below hI.bl (fun b hb => hb)) (fun b hb => Nat.lt_of_lt_of_le hb hI.bl.size))
    have x0 : W.cell? ⟨Bx, 0, none⟩ = some (.int .i64 x.1.2.id) := by simp [World.cell?, bX]
    have x1 : W.cell? ⟨Bx, 1, none⟩ = some (.int .i64 x.1.2.k) := by simp [World.cell?, bX]
    have x2 : W.cell? ⟨Bx, 2, none⟩ = some (.int .i64 x.1.2.n) := by simp [World.cell?, bX]
    have x3 : W.cell? ⟨Bx, 3, none⟩ = some (.string x.1.2.s) := by simp [World.cell?, bX]
    have x4 : W.cell? ⟨Bx, 4, none⟩ = some (.slice x.1.2.ao x.1.2.len x.1.2.cap) := by simp [World.cell?, bX]
    have HBX := Lib.hid bX
    have HBL := Lib.hid hBx
    have hmem : o ∈ objs := List.mem_of_getElem? ho
    have HMEM := Lib.hid hmem
    unfold obV at HCK
    clear hI ho hid hvx hwf bX hmem
    obtain ⟨er, her⟩ : ∃ er, encErr o.2 = er := ⟨_, rfl⟩
    have HEE := Lib.hid her
    rw [her] at HCK
    clear her
    by_cases hck : er = 0
    · subst hck
      gi_wp2_with (refine ⟨trivial, ?_⟩; gi_at_call 9; refine (callsIn_round HCK.out).mono ?_; rintro e w5 ⟨rfl, hb5⟩; have HB5 := Lib.hid hb5; have HI5 := Lib.hid (HI.out.chg (below_chg hb5) (by simp)); have bx5 := (hb5.block Bx (lt_of_block HBX.out)).trans HBX.out; have HBX5 := Lib.hid bx5; clear x0 x1 x2 x3 x4 hb5 bx5)
      have x0 : w5.cell? ⟨Bx, 0, none⟩ = some (.int .i64 x.1.2.id) := by simp [World.cell?, HBX5.out]
      have x1 : w5.cell? ⟨Bx, 1, none⟩ = some (.int .i64 x.1.2.k) := by simp [World.cell?, HBX5.out]
      have x2 : w5.cell? ⟨Bx, 2, none⟩ = some (.int .i64 x.1.2.n) := by simp [World.cell?, HBX5.out]
      have x3 : w5.cell? ⟨Bx, 3, none⟩ = some (.string x.1.2.s) := by simp [World.cell?, HBX5.out]
      have x4 : w5.cell? ⟨Bx, 4, none⟩ = some (.slice x.1.2.ao x.1.2.len x.1.2.cap) := by simp [World.cell?, HBX5.out]
      obtain ⟨m0, _, _, _, _⟩ := cells4 HI5.out.bW
      obtain ⟨p0, _⟩ := cells1 HI5.out.bP
      refine still_round 8 (by kernel_rfl) (by kernel_rfl) (by kernel_rfl) (fun ⟨_, _, h⟩ => h) (fun X hX => ?_)
      clear hX
      simp only [List.take_succ_cons, List.take_zero, List.drop_succ_cons, List.drop_zero]
      repeat (refine st_plain rfl (fun K hK => ?_); go_simp; (try go_bits); (refine hK _ ?_; clear hK K))
      refine wpStill_nil ?_
      refine wpList_update_vmap rfl _ _ _ 43 rfl Tryd.underlying3 Tryd.underlying43 (HI5.out.va.chg (F := []) (w' := w5.drew) ((Chg.refl [] w5).drewN 1) (by simp)) (by have := HOL.out; have := HOI.out.1; unfold maxLen; omega) rfl x.1.2.id (obV x.1.2) rfl rfl HWF.out ?_
      intro w6 hm6 hc6
      have hc56 : Chg [w2.heap.size + 1] w5 w6 := ((Chg.refl _ w5).drewN 1).trans hc6 (fun k hk => .inl hk)
      have hcW : Chg [w2.heap.size + 1] W w6 := ((below_chg HB5.out).mono (by simp)).trans hc56 (fun k hk => .inl hk)
      have hi5 := HI5.out
      have hs2 := HS2.out
      have hnx : ∀ k, k ≠ w2.heap.size + 1 → k ∉ [w2.heap.size + 1] := fun k hk => by simpa using hk
      have hmk : MkI w w2.heap.size (.slice ao obs.length co) objs (pre ++ [x]) w6 := {
        bH := (hc56.block _ (lt_of_block hi5.bH) (hnx _ (by omega))).trans hi5.bH
        bE := (hc56.block _ (lt_of_block hi5.bE) (hnx _ (by omega))).trans hi5.bE
        bW := (hc56.block _ (lt_of_block hi5.bW) (hnx _ (by omega))).trans hi5.bW
        bP := (hc56.block _ (lt_of_block hi5.bP) (hnx _ (by omega))).trans hi5.bP
        bS := (hc56.block _ (lt_of_block hi5.bS) (hnx _ (by omega))).trans hi5.bS
        va := by rw [List.length_append, List.length_singleton, allM_snoc]; exact hm6
        nm := hi5.nm.chg hc56 (hnx _ (by omega))
        ok := fun y hy q hq => by
          rcases List.mem_append.1 hy with h | h
          · exact hi5.ok y h q hq
          · rw [List.mem_singleton.1 h, HX.out] at hq
            cases hq
            exact HEE.out
        bl := hi5.bl.trans (hc56.below (by have := lt_of_block hi5.bH; omega) (fun k hk => by simp at hk; omega))
        sz := hi5.sz }
      have hkp : KpB w.heap.size (w2.heap.size + 1 + 1 + 1 + 1 + 1) W w6 := ⟨hcW.below (by have := lt_of_block HI.out.bH; omega) (fun k hk => by simp at hk; omega), hcW.block _ (lt_of_block HI.out.bS) (hnx _ (by omega))⟩
      have hkf : KeepsFrom W0.heap.size W w6 := keepsFrom_chg hcW (fun k hk => by simp at hk; have := HS0.out; omega)
      exact ⟨hkf, hkp, hmk⟩
    · have k1 : (er == 0) = false := by simpa using hck
      have k2 : (er != 0) = true := by simpa using hck
      gi_wp2_with (refine ⟨trivial, ?_⟩; gi_at_call 9; refine (callsIn_round HCK.out).mono ?_; rintro e w5 ⟨rfl, hb5⟩; have HB5 := Lib.hid hb5; have HI5 := Lib.hid (HI.out.chg (below_chg hb5) (by simp)); obtain ⟨g0, g1, g2⟩ := cells2 HI5.out.bH; obtain ⟨g3, g4⟩ := cells1 HI5.out.bE; clear x0 x1 x2 x3 x4 hb5)
      obtain ⟨r1, r2, r3⟩ := res_set (a' := .slice none 0 0) (b' := .slice none 0 0) (c' := .int .i64 2) HI5.out.bH HI5.out.bE
      have hi5 := HI5.out
      have hs2 := HS2.out
      refine ⟨keepsFrom_chg (((below_chg HB5.out).mono (by simp)).trans r3 (fun k hk => .inl hk)) (fun k hk => by simp at hk; have := HS0.out; omega), rfl, r1, r2, ⟨o, HMEM.out, by rw [HEE.out]; exact hck⟩, hi5.bl.trans (r3.below (by have := lt_of_block hi5.bH; omega) (fun k hk => by simp at hk; omega))⟩
  case done =>
    rintro D ys W hD hys hI hK
    have hgood : ∀ o ∈ objs, encErr o.2 = 0 := fun o ho => by
      obtain ⟨q, hq⟩ := List.mem_iff_getElem?.1 ho
      have hql := (List.getElem?_eq_some_iff.1 hq).1
      obtain ⟨ob, hob⟩ : ∃ ob, obs[q]? = some ob := ⟨_, List.getElem?_eq_getElem (by rw [HOI.out.1]; exact hql)⟩
      have hm : ob ∈ ys.map (·.1.2) := by rw [hys]; exact List.mem_reverse.2 (List.mem_of_getElem? hob)
      obtain ⟨y, hy, hyo⟩ := List.mem_map.1 hm
      obtain ⟨o2, ho2⟩ : ∃ o2, objs[y.1.1]? = some o2 := ⟨_, List.getElem?_eq_getElem (by rw [← HOI.out.1]; exact (List.getElem?_eq_some_iff.1 y.2).1)⟩
      have h1 := (HOI.out.2 _ _ _ hob hq).2.1
      have h2 := (HOI.out.2 _ _ _ y.2 ho2).2.1
      rw [hyo] at h2
      rw [valIs_inj _ _ _ h1 h2]
      exact hI.ok y hy o2 ho2
    have hall := allM_at HOI.out hys
    have HGOOD := Lib.hid hgood
    have HALL := Lib.hid hall
    have HI := Lib.hid hI
    have HKD := Lib.hid hK
    have HDD := Lib.hid hD
    clear hgood hall hys hI hK hD
    gi_upto_region 12 with (refine ⟨trivial, ?_⟩; gi_at_call 10; refine (callsIn_wide.2 (HSO.out _ (HI.out.bl.alloc HI.out.bl.size _))).mono ?_; rintro e w7 ⟨v7, rfl, hr7, _, hb7⟩; have hr8 := hr7 s HS.out; obtain ⟨ar, cr, hv7, _⟩ := hr8.at_; subst hv7; have HR7 := Lib.hid hr8; have HB7 := Lib.hid hb7; have zG := (hb7.block W.heap.size (by simp)).trans (World.alloc_heap_new W (.cells #[.slice none 0 0, .slice none 0 0] 31)); have ZG := Lib.hid zG; obtain ⟨k3, k4, k5⟩ := cells2 zG; clear hr7 hr8 hb7 zG; simp only [HS.out, Option.isSome_some])
    refine wpIn_wide.2 ?_
    go_wp2
    have hBS := lt_of_block HI.out.bS
    have hbg8 := (heap_setCell_same w7 W.heap.size 0 _ _ (.slice ar s.length cr) ZG.out).trans rfl
    have hc8 : Chg [W.heap.size] w7 (w7.setCell ⟨W.heap.size, 0, none⟩ (.slice ar s.length cr)) := (Chg.refl _ _).setCell (.inl (by simp)) _
    have hi8 : MkI w w2.heap.size (.slice ao obs.length co) objs ys (w7.setCell ⟨W.heap.size, 0, none⟩ (.slice ar s.length cr)) := ((HI.out.chg ((Chg.refl [] W).alloc _) (by simp)).chg (below_chg HB7.out) (by simp)).chg hc8 (fun k hk => by simp at hk; omega)
    have hown7 : ∀ k, (Value.slice ar s.length cr).ownBlock = some k → W.heap.size + 1 ≤ k := fun k hk => by have := HR7.out.2 k hk; simpa using this
    have hr8 : RtRow 36 (w7.setCell ⟨W.heap.size, 0, none⟩ (.slice ar s.length cr)) w.heap.size (.slice ar s.length cr) s := (HR7.out.chg hc8 (fun k hk => by have := hown7 k hk; simp; omega)).mono (by have := HS2.out; simp; omega)
    have hDl : D < W.heap.size := (Array.getElem?_eq_some_iff.1 HKD.out).1
    have hkd8 : (w7.setCell ⟨W.heap.size, 0, none⟩ (.slice ar s.length cr)).heap[D]? = some (.deferred (some [])) := (hc8.block D (Nat.lt_of_lt_of_le (Nat.lt_succ_of_lt hDl) (by have := HB7.out.size; simpa using this)) (by simp; omega)).trans ((HB7.out.block D (by simp; omega)).trans ((Below.heap_alloc _ _ _ hDl).trans HKD.out))
    have HKD8 := Lib.hid hkd8
    have HDL := Lib.hid hDl
    clear hkd8 hDl
    generalize w7.setCell ⟨W.heap.size, 0, none⟩ (.slice ar s.length cr) = w8 at hbg8 hc8 hi8 hr8 HKD8 ⊢
    have hs2 := HS2.out
    have hwk8 : WkAt w8 (w.heap.size) (w2.heap.size + 1 + 1 + 1) (w2.heap.size + 1) (w2.heap.size + 1 + 1) (.slice none 0 0) (.slice none 0 0) [] := {
      blk := hi8.bW
      mp := hi8.nm.congr (fun k => rfl)
      wt := IRow.nil _ _
      pr := PRow.nil _ _
      wf := fun id h => by cases h
      n0 := by have := lt_of_block hi8.bW; omega
      n1 := by omega
      n2 := by omega
      e1 := by omega
      e2 := by simp [Value.ownBlock]
      e3 := by simp [Value.ownBlock]
      e4 := by simp [Value.ownBlock]
      e5 := by simp [Value.ownBlock]
      e6 := fun k hk => by simp [Value.ownBlock] at hk }
    have hxx : ∀ k, k ≠ w2.heap.size + 1 + 1 + 1 → k ≠ w2.heap.size + 1 + 1 → k ∉ wkF (w2.heap.size + 1 + 1 + 1) (w2.heap.size + 1 + 1) (.slice none 0 0) (.slice none 0 0) := fun k h1 h2 => by simp [wkF, Value.ownBlock, h1, h2]
    have HI8 := Lib.hid hi8
    have HXX := Lib.hid hxx
    have HO7 := Lib.hid hown7
    have HBG8 := Lib.hid hbg8
    have HWK8 := Lib.hid hwk8
    have HR8 := Lib.hid hr8
    have HBS := Lib.hid hBS
    have hsz8 : W.heap.size < w8.heap.size := lt_of_block hbg8
    have HSZ8 := Lib.hid hsz8
    clear hi8 hxx hown7 hbg8 hwk8 hr8 hBS hc8 hsz8 k3 k4 k5
    generalize hBg : W.heap.size = Bg at HBG8 HBS HO7 HSZ8 HDL ⊢
    clear ZG HR7 HB7
    refine wpIn_wide.2 ?_
    refine use_regG (c' := mkB2) (by kernel_rfl) ?_
    refine mk2 (N := w.heap.size) (sw0 := .slice none 0 0) (sl0 := .slice none 0 0) HWK8.out HI8.out.bP HBG8.out HR8.out (HXX.out _ (by omega) (by omega)) (HXX.out _ (by have := HBS.out; omega) (by have := HBS.out; omega)) (fun k hk => ⟨HXX.out k (by have := HO7.out k hk; have := HBS.out; omega) (by have := HO7.out k hk; have := HBS.out; omega), by have := HO7.out k hk; have := HBS.out; omega, by have := HO7.out k hk; omega⟩) HSL.out HGW.out ?_
    intro v12 v13 v63 v64 v65 v66 v67 v68 v69 v70 v71 v72 v73 v74 v75 v76 v77 v78 v79 v80 v81 v82 v83 v84 w9 sw9 sl9 hwk9 hws9 hrow9
    have HWK9 := Lib.hid hwk9
    have HWS9 := Lib.hid hws9
    have HRW9 := Lib.hid hrow9
    clear hwk9 hws9 hrow9
    gi_upto_region 19 with (fail)
    refine wpIn_wide.2 ?_
    go_wp2
    have hnk9 : ∀ k, k < w8.heap.size → k ≠ w2.heap.size + 1 + 1 + 1 → k ≠ w2.heap.size + 1 + 1 → k ∉ wkF (w2.heap.size + 1 + 1 + 1) (w2.heap.size + 1 + 1) sw9 sl9 := fun k h1 h2 h3 h4 => by
      rcases HWS9.out.wkF h4 with e | e
      · exact HXX.out k h2 h3 e
      · omega
    have hno9 : ∀ k, k ≤ Bg → k ∉ (Value.slice ar s.length cr).ownBlock.toList := fun k hk h => by have := HO7.out k (by simpa using h); omega
    have hbl9 : ∀ k, k ≤ Bg → k ≠ w2.heap.size + 1 + 1 + 1 → k ≠ w2.heap.size + 1 + 1 → w9.heap[k]? = w8.heap[k]? := fun k h1 h2 h3 => HWS9.out.block (by have := HSZ8.out; omega) (HXX.out k h2 h3) (hno9 k h1)
    have hbs := HBS.out
    have hbw9 : Below w.heap.size w w9 := HI8.out.bl.trans (HWS9.out.1.below (by have := HI8.out.bl.size; exact this) (fun k hk => by
      rcases List.mem_append.1 hk with h | h
      · have := wkF_ge HWK8.out h; omega
      · have := HO7.out k (by simpa using h); omega))
    have HNK9 := Lib.hid hnk9
    have HBL9 := Lib.hid hbl9
    have HBW9 := Lib.hid hbw9
    clear hnk9 hno9 hbl9 hbw9
    refine wpIn_wide.2 ?_
    refine use_regG (c' := mkB4) (by kernel_rfl) ?_
    refine mk4 (N := w.heap.size) (objs := objs) (fa := allM ys) (nv := ys.length) (H := w.heap.size) HWK9.out ((HBL9.out _ (by omega) (by omega) (by omega)).trans HI8.out.bP) (HI8.out.va.chg HWS9.out.1 (fun h => by
      rcases List.mem_append.1 h with h | h
      · exact HXX.out _ (by omega) (by omega) h
      · have := HO7.out _ (by simpa using h); omega)) (HALL.out.below HBW9.out (by omega)) ((HBL9.out _ (by omega) (by omega) (by omega)).trans HI8.out.bH) ((HBL9.out _ (by omega) (by omega) (by omega)).trans HI8.out.bE) ⟨Nat.le_refl _, HNK9.out _ (by have := HSZ8.out; omega) (by omega) (by omega), HNK9.out _ (by have := HSZ8.out; omega) (by omega) (by omega)⟩
      (HNK9.out _ (by have := HSZ8.out; omega) (by omega) (by omega)) (HNK9.out _ (by have := HSZ8.out; omega) (by omega) (by omega)) HOL.out (by have := metOf_len s; have := HSL.out; omega) (Gr.meets_nodup .nil) HSZ.out ?_ ?_
    · intro v14 v15 v16 v17 v19 v85 v86 v87 v88 v89 v90 v91 v92 v93 v94 v95 v96 v97 v98 v99 v100 v101 v102 v103 v104 v105 v106 v107 v108 v109 v110 v111 v112 v113 v114 v115 v116 v117 v118 v119 v120 v121 v122 v123 v124 v125 v126 w10 sw10 sl10 met10 vals10 hbf hwk10 hws10 hvr10 hvx10 hml10 hvl10
      obtain ⟨a14, c14, e14⟩ := hvr10.form
      subst e14
      have HBF := Lib.hid hbf
      have HWK10 := Lib.hid hwk10
      have HWS10 := Lib.hid hws10
      have HVR10 := Lib.hid hvr10
      have HML10 := Lib.hid hml10
      have HVL10 := Lib.hid hvl10
      clear hbf hwk10 hws10 hvr10 hvx10 hml10 hvl10
      gi_upto_region 31 with (fail)
      refine wpIn_wide.2 ?_
      go_wp2
      have hbl10 : ∀ k, k ≤ Bg → k ≠ w2.heap.size + 1 + 1 + 1 → k ≠ w2.heap.size + 1 + 1 → w10.heap[k]? = w8.heap[k]? := fun k h1 h2 h3 => (HWS10.out.block (by have := HSZ8.out; have := HWS9.out.1.size; omega) (HNK9.out k (by have := HSZ8.out; omega) h2 h3) (by simp)).trans (HBL9.out k h1 h2 h3)
      have HBL10 := Lib.hid hbl10
      have hvo : ∀ k, (Value.slice a14 vals10.length c14).ownBlock = some k → k ≠ Bg := fun k hk => by have := HVR10.out.own hk; have := HSZ8.out; have := HWS9.out.1.size; omega
      have HVO := Lib.hid hvo
      clear hbl10 hvo
      refine wpIn_wide.2 ?_
      refine use_regG (c' := mkB8) (by kernel_rfl) ?_
      refine mk8 (N := w.heap.size) (rows := .slice ar s.length cr) HWK10.out (by have := HML10.out; omega) ((HBL10.out _ (by omega) (by omega) (by omega)).trans HI8.out.bP) ((HBL10.out _ (Nat.le_refl _) (by omega) (by omega)).trans HBG8.out) HVR10.out (fun h => by
        rcases HWS10.out.wkF h with e | e
        · exact HNK9.out Bg HSZ8.out (by omega) (by omega) e
        · have := HSZ8.out; have := HWS9.out.1.size; omega) (by omega) HVO.out (by omega) HVL10.out (fun v hv => by obtain ⟨o, ho, e⟩ := Gr.bfs_mem _ _ _ _ _ _ HBF.out (fun x hx => by cases hx) v hv; rw [← e]; exact HSZ.out o ho) ?_
      intro v21 v22 v23 v129 v130 v131 v132 v133 v134 v135 v136 v137 v138 v139 v140 v141 v142 v143 v144 v145 v146 v147 v148 w11 og hbg11 hor11 hch11
      have HBG11 := Lib.hid hbg11
      have HOR11 := Lib.hid hor11
      have HCH11 := Lib.hid hch11
      obtain ⟨ag, cg, eg⟩ := hor11.form
      rw [List.length_map] at eg
      subst eg
      obtain ⟨k0, k1, k2⟩ := cells2 hbg11
      have hbl11 : ∀ k, k < Bg → k ≠ w2.heap.size + 1 + 1 + 1 → k ≠ w2.heap.size + 1 + 1 → w11.heap[k]? = w8.heap[k]? := fun k h1 h2 h3 => (HCH11.out.block k (by have := HSZ8.out; have := HWS9.out.1.size; have := HWS10.out.1.size; omega) (by simp; omega)).trans (HBL10.out k (by omega) h2 h3)
      have hH11 := (hbl11 w.heap.size (by omega) (by omega) (by omega)).trans HI8.out.bH
      have hE11 := (hbl11 (w.heap.size + 1) (by omega) (by omega) (by omega)).trans HI8.out.bE
      have HH11 := Lib.hid hH11
      have HE11 := Lib.hid hE11
      obtain ⟨m0, m1, m2⟩ := cells2 hH11
      obtain ⟨n0, n1⟩ := cells1 hE11
      clear hbg11 hor11 hch11 hbl11 hH11 hE11
      gi_wp2
      obtain ⟨r1, r2, r3⟩ := res_set (a' := .slice ar s.length cr) (b' := .slice ag vals10.length cg) (c' := .int .i64 0) HH11.out HE11.out
      generalize (((w11.setCell _ _).setCell _ _).setCell _ _) = w12 at r1 r2 r3 ⊢
      have hdd := HDD.out
      have hds := HS0.out
      have hDB := HDL.out
      have hD11 : w11.heap[D]? = some (.deferred (some [])) := (HCH11.out.block D (by have := HSZ8.out; have := HWS9.out.1.size; have := HWS10.out.1.size; omega) (by simp; omega)).trans ((HBL10.out D (by omega) (by omega) (by omega)).trans HKD8.out)
      have hD12 := (r3.block D (Array.getElem?_eq_some_iff.1 hD11).1 (by simp; omega)).trans hD11
      have hcd : Chg [D] w12 (w12.putObj D (.deferred none)) := (Chg.refl _ w12).grown (grownBy_putObj' w12 D _) (fun k hk => by cases hk; exact .inl (by simp))
      obtain ⟨y0, y1, _⟩ := cells2 ((hcd.block _ (lt_of_block r1) (by simp; omega)).trans r1)
      obtain ⟨y2, _⟩ := cells1 ((hcd.block _ (lt_of_block r2) (by simp; omega)).trans r2)
      have hmt : makeT roots objs = (⟨s.map (renum met10), vals10.map (mvT met10)⟩, 0) := by
        unfold makeT
        rw [if_neg (fun h => h HER.out), if_neg (fun h => by obtain ⟨o, ho, he⟩ := List.any_eq_true.1 h; exact (by simpa using he : encErr o.2 ≠ 0) (HGOOD.out o ho)), HS.out]
        simp only
        have hb := HBF.out
        unfold metOf at hb
        rw [hb]
        rfl
      rw [hmt]
      refine ⟨by simp, .inl ⟨_, _, rfl, run_takeDeferred hD12, ?_⟩⟩
      refine ⟨.tuple #[.agg #[.slice ar s.length cr, .slice ag vals10.length cg], .int .i64 0], by simp [results, Tryd.results4, go_sem, y0, y1, y2], ?_⟩
      have hro : ∀ k, (Value.slice ar s.length cr).ownBlock = some k → Bg + 1 ≤ k ∧ k < w8.heap.size := fun k hk => ⟨HO7.out k hk, HR8.out.1.lt hk⟩
      have hrr := (((HRW9.out.chg HWS10.out.1 (fun k hk h => by
        rw [List.append_nil] at h
        exact HNK9.out k (hro k hk).2 (by have := (hro k hk).1; omega) (by have := (hro k hk).1; omega) h)).chg HCH11.out (fun k hk => by have := (hro k hk).1; simp; omega)).chg r3 (fun k hk => by have := (hro k hk).1; simp; omega)).chg hcd (fun k hk => by have := (hro k hk).1; simp; omega)
      rw [renum_pre (Gr.bfs_pre _ _ _ _ _ _ HBF.out) (fun r hr => by unfold metOf; exact Gr.meets_mem.2 (.inr (List.mem_map.2 ⟨r, hr, rfl⟩)))] at hrr
      have hsz10 : Bg < w10.heap.size := by have := HSZ8.out; have := HWS9.out.1.size; have := HWS10.out.1.size; omega
      have hog : ∀ k, (Value.slice ag vals10.length cg).ownBlock = some k → w10.heap.size ≤ k := fun k hk => HOR11.out.own hk
      have hvv := (VRow.chg HOR11.out r3 (fun k hk => by have := hog k hk; simp; omega) (fun b hb => ⟨hb.2.1, by simp; rcases hb.1 with h | h <;> omega⟩)).chg hcd (fun k hk => by have := hog k hk; simp; omega) (fun b hb => ⟨Nat.lt_of_lt_of_le hb.2.1 r3.size, by simp; have := HS2.out; rcases hb.1 with h | h <;> omega⟩)
      obtain ⟨aq, cq, eq, q1, q2, q3, q4⟩ := hvv.kids (Q := fun b => b < (w12.putObj D (.deferred none)).heap.size) (fun b hb => Nat.lt_of_lt_of_le (Nat.lt_of_lt_of_le hb.2.1 r3.size) hcd.size) (fun k hk => hvv.lt hk)
      have hbe : Below w.heap.size w (w12.putObj D (.deferred none)) := by
        have b10 := HBW9.out.trans (WkS.below HWK9.out HWS10.out)
        have b11 := b10.trans (HCH11.out.below (by have := b10.size; exact this) (fun k hk => by simp at hk; omega))
        have b12 := b11.trans (r3.below b11.size (fun k hk => by simp at hk; omega))
        exact b12.trans (hcd.below b12.size (fun k hk => by simp at hk; omega))
      exact ⟨_, _, rfl, hrr.at_, ⟨aq, cq, eq, q1, q2, q3, q4⟩, hbe⟩
    · intro hbn v14 v15 v16 v17 v19 v85 v86 v87 v88 v89 v90 v91 v92 v93 v94 v95 v96 v97 v98 v99 v100 v101 v102 v103 v104 v105 v106 v107 v108 v109 v110 v111 v112 v113 v114 v115 v116 v117 v118 v119 v120 v121 v122 v123 v124 v125 v126 w10 hH hE hb hD10
      have hdd := HDD.out
      have hds := HS0.out
      have hcd : Chg [D] w10 (w10.putObj D (.deferred none)) := (Chg.refl _ w10).grown (grownBy_putObj' w10 D _) (fun k hk => by cases hk; exact .inl (by simp))
      obtain ⟨y0, y1, _⟩ := cells2 ((hcd.block _ (lt_of_block hH) (by simp; omega)).trans hH)
      obtain ⟨y2, _⟩ := cells1 ((hcd.block _ (lt_of_block hE) (by simp; omega)).trans hE)
      have hmt : makeT roots objs = (⟨[], []⟩, 5) := by
        unfold makeT
        rw [if_neg (fun h => h HER.out), if_neg (fun h => by obtain ⟨o, ho, he⟩ := List.any_eq_true.1 h; exact (by simpa using he : encErr o.2 ≠ 0) (HGOOD.out o ho)), HS.out]
        simp only
        unfold metOf at hbn
        rw [hbn]
      rw [hmt]
      refine ⟨by simp, .inl ⟨_, _, rfl, run_takeDeferred (hD10 D _ ((HBL9.out D (by have := HDL.out; omega) (by omega) (by omega)).trans HKD8.out) (HNK9.out D (by have := HDL.out; have := HSZ8.out; omega) (by omega) (by omega)) (by omega) (by omega)), ?_⟩⟩
      refine ⟨.tuple #[.agg #[.slice none 0 0, .slice none 0 0], .int .i64 5], by simp [results, Tryd.results4, go_sem, y0, y1, y2], ?_⟩
      have b10 := HBW9.out.trans hb
      exact ⟨_, _, rfl, rtAt_nil _, VsAt.nil _, b10.trans (hcd.below b10.size (fun k hk => by simp at hk; omega))⟩
  case stop =>
    rintro D c pre W hD _ ⟨rfl, hH, hE, ⟨o, ho, he⟩, hb⟩ hK
    gi_wp2
    have hcd : Chg [D] W (W.putObj D (.deferred none)) := (Chg.refl _ W).grown (grownBy_putObj' W D _) (fun k hk => by cases hk; exact .inl (by simp))
    have hdl : w.heap.size + 2 ≤ D := by have := HS2.out; omega
    obtain ⟨y0, y1, _⟩ := cells2 ((hcd.block _ (lt_of_block hH) (by simp; omega)).trans hH)
    obtain ⟨y2, _⟩ := cells1 ((hcd.block _ (lt_of_block hE) (by simp; omega)).trans hE)
    have hmt : makeT roots objs = (⟨[], []⟩, 2) := by
      unfold makeT
      rw [if_neg (fun h => h HER.out), if_pos (List.any_eq_true.2 ⟨o, ho, by simpa using he⟩)]
    rw [hmt]
    refine ⟨by simp, .inl ⟨_, _, rfl, run_takeDeferred hK, ?_⟩⟩
    refine ⟨.tuple #[.agg #[.slice none 0 0, .slice none 0 0], .int .i64 2], by simp [results, Tryd.results4, go_sem, y0, y1, y2], ?_⟩
    exact ⟨_, _, rfl, rtAt_nil _, VsAt.nil _, hb.trans (hcd.below (by have := hb.size; omega) (by simp; omega))⟩
/-- The program's Make. -/
theorem make_any (w : World) (vr vo : Value) (roots : List RT) (obs : List OB) (objs : List (Int × VT)) (hr : RtAt w vr roots) (hl : roots.length ≤ 1000000) (hgd : ∀ r ∈ roots, Gd r)
    (ho : ObAt w vo obs) (hoi : ObsIs w (fun b => b < w.heap.size) obs objs) (hol : objs.length ≤ 100) (hsz : ∀ o ∈ objs, o.2.sz ≤ 1000) : Calls Tryd.prog 4 #[vr, vo] w (MakeEnd w (makeT roots objs)) := by
  by_cases h0 : (dirT roots).2 = 0
  · have hx : ∃ s, sortO roots [] = some s ∧ roots.length ≤ 100 := by
      unfold dirT at h0
      split at h0
      · exact absurd h0 (by decide)
      · rename_i hle
        cases hs : sortO roots [] with
        | none => rw [hs] at h0; exact absurd h0 (by decide)
        | some s => exact ⟨s, rfl, by omega⟩
    obtain ⟨s, hs, hle⟩ := hx
    have hp := (Gr.sortO_some .nil hs).2.1.length_eq
    rw [List.append_nil] at hp
    exact make_rest w vr vo roots s obs objs hr hl hgd h0 hs (by omega) ho hoi hol hsz
  · exact make_dir w vr vo roots objs hr hl hgd _ rfl h0
end Go.Proofs.YtenikoecnfbfoaaDoor
/- Layer 8: the program's Text of a graph. -/
namespace Go.Proofs.YtenikoecnfbfoaaDoor
open Go.RowKit
set_option linter.unusedVariables false
set_option linter.unusedSimpArgs false
open Gr (RT GT)
/-- A root's line; an object's line; the whole text. -/
def rLine (r : RT) : List UInt8 := r.name ++ [58] ++ r.typ ++ [61, 64] ++ Lib.itoa (wr r.id) ++ [10]
def oLine (F : Nat → List UInt8) (i : Nat) (t : VT) : List UInt8 := [64] ++ Lib.itoa (wr ((i : Int) + 1)) ++ [61] ++ t.txt F ++ [10]
def rLines (l : List RT) : List UInt8 := l.flatMap rLine
def oLines (F : Nat → List UInt8) : Nat → List VT → List UInt8
  | _, [] => []
  | i, t :: l => oLine F i t ++ oLines F (i + 1) l
def graphTxt (F : Nat → List UInt8) (g : GT) : List UInt8 := rLines g.roots ++ oLines F 0 g.objs
theorem itoa_wr_len (n : Int) : (Lib.itoa (wr n)).length ≤ 21 := Lib.itoa_length_le _ (by have := wr_ge n; omega) (by have := wr_le n; omega)
theorem rLines_take {l : List RT} {i : Nat} {r : RT} (h : l[i]? = some r) : rLines (l.take (i + 1)) = rLines (l.take i) ++ rLine r := by
  rw [List.take_add_one, h]; simp [rLines]
theorem rLine_len {r : RT} (h : r.name.length ≤ 1000 ∧ r.typ.length ≤ 1000) : (rLine r).length ≤ 3000 := by
  have := itoa_wr_len r.id
  simp only [rLine, List.length_append, List.length_cons, List.length_nil]; omega
theorem rLines_len : ∀ (l : List RT), (∀ r ∈ l, r.name.length ≤ 1000 ∧ r.typ.length ≤ 1000) → (rLines l).length ≤ l.length * 3000
  | [], _ => by simp [rLines]
  | r :: l, h => by
    have h1 := rLine_len (h r (by simp))
    have h2 := rLines_len l fun x hx => h x (by simp [hx])
    simp only [rLines, List.flatMap_cons, List.length_append, List.length_cons] at h2 ⊢
    omega
theorem oLines_append (F : Nat → List UInt8) : ∀ (a b : List VT) (i : Nat), oLines F i (a ++ b) = oLines F i a ++ oLines F (i + a.length) b
  | [], b, i => by simp [oLines]
  | t :: a, b, i => by
    rw [List.cons_append, oLines, oLines, oLines_append F a b, List.append_assoc]
    congr 3
    simp only [List.length_cons]; omega
theorem oLines_take {F : Nat → List UInt8} {l : List VT} {i : Nat} {t : VT} (h : l[i]? = some t) : oLines F 0 (l.take (i + 1)) = oLines F 0 (l.take i) ++ oLine F i t := by
  have hi : i < l.length := (List.getElem?_eq_some_iff.1 h).1
  rw [List.take_add_one, h, oLines_append]
  simp [oLines, Nat.min_eq_left (Nat.le_of_lt hi)]
theorem oLine_len {F : Nat → List UInt8} {i : Nat} {t : VT} (h : (t.txt F).length ≤ 1000000) : (oLine F i t).length ≤ 1000050 := by
  have := itoa_wr_len ((i : Int) + 1)
  simp only [oLine, List.length_append, List.length_cons, List.length_nil]; omega
theorem oLines_len (F : Nat → List UInt8) : ∀ (l : List VT) (i : Nat), (∀ t ∈ l, (t.txt F).length ≤ 1000000) → (oLines F i l).length ≤ l.length * 1000050
  | [], _, _ => by simp [oLines]
  | t :: l, i, h => by
    have h1 := oLine_len (F := F) (i := i) (h t (by simp))
    have h2 := oLines_len F l (i + 1) fun x hx => h x (by simp [hx])
    simp only [oLines, List.length_append, List.length_cons] at h2 ⊢
    omega
theorem oJoin (A a c : List UInt8) : bytes A ++ ((⟨#[64]⟩ ++ bytes a ++ ⟨#[61]⟩ ++ bytes c) ++ ⟨#[10]⟩) = bytes (A ++ ([64] ++ a ++ [61] ++ c ++ [10])) := by
  apply Go.WideShapes.bytes_inj
  simp [bytes]
def TxI (w0 : World) (l : List RT) (gk : Nat) (s3 s11 : Value) (wx : World) : Prop :=
  ∃ i : Nat, s11 = .int .i64 (i : Int) ∧ i + gk = l.length ∧ s3 = .string (bytes (rLines (l.take i))) ∧ Below w0.heap.size w0 wx
def TxO (F : Nat → List UInt8) (w0 : World) (pre : List UInt8) (l : List VT) (gk : Nat) (s3 s33 : Value) (wx : World) : Prop :=
  ∃ i : Nat, s33 = .int .i64 (i : Int) ∧ i + gk = l.length ∧ s3 = .string (bytes (pre ++ oLines F 0 (l.take i))) ∧ Below w0.heap.size w0 wx
set_option maxRecDepth 100000 in
set_option maxHeartbeats 8000000 in
theorem graphText_any (F : Nat → List UInt8) (w : World) (vr vo : Value) (roots : List RT) (objs : List VT) (hT : Tab w) (hr : RtAt w vr roots) (ho : VsAt w vo objs) (hl : roots.length ≤ 1000000) (hlo : objs.length ≤ 1000000)
    (hgd : ∀ r ∈ roots, r.name.length ≤ 1000 ∧ r.typ.length ≤ 1000) (hlen : ∀ t ∈ objs, (t.txt F).length ≤ 1000000)
    (hV : ∀ t ∈ objs, ∀ (v : Value) (W : World), Below w.heap.size w W → ValIs w (fun b => b < w.heap.size) t v → Calls Tryd.prog 28 #[v] W fun e w' => e = .returned (.string (bytes (t.txt F))) ∧ Below W.heap.size W w') :
    Calls Tryd.prog 14 #[.agg #[vr, vo]] w fun e w' => e = .returned (.string (bytes (graphTxt F ⟨roots, objs⟩))) ∧ Below w.heap.size w w' := by
  obtain ⟨ao, cap, rfl, hcc⟩ := hr.cells
  obtain ⟨bo, capo, rfl, h1, h2, h3, hk⟩ := ho
  have HCC := Lib.hid hcc
  have HK := Lib.hid hk
  have HGD := Lib.hid hgd
  have HLEN := Lib.hid hlen
  have HV := Lib.hid hV
  have HT : Hid (∀ W, Below w.heap.size w W → Tab W) := fun W hW => hT.below hW
  have hl2 : (roots.length : Int) ≤ 1000000 := by omega
  have hl3 : (objs.length : Int) ≤ 1000000 := by omega
  clear hr hcc hk hgd hlen hV hT h1 h2 h3
  go_enter Tryd.func14, Tryd.ntmps14
  go_wp2
  obtain ⟨W0, hW0⟩ : ∃ W, (w.alloc (.cells #[.slice ao roots.length cap, .slice bo objs.length capo] 31)) = W := ⟨_, rfl⟩
  have HW0 : Hid (Below w.heap.size w W0) := by subst hW0; exact (Below.refl _ _).alloc (Nat.le_refl _) _
  go_loopg [3, 11] roots.length (fun gk s3 s11 wx => TxI (w.alloc (.cells #[.slice ao roots.length cap, .slice bo objs.length capo] 31)) roots gk s3 s11 wx)
  case atStart => exact ⟨0, rfl, by omega, rfl, Below.refl _ _⟩
  case round =>
    rename World => wx
    obtain ⟨i, rfl, hi, rfl, hb⟩ := hrel
    have HI := Lib.hid hi
    have HB := Lib.hid hb
    have i0 : (0 : Int) ≤ (i : Int) := by omega
    by_cases hlt : i < roots.length
    · have i1 : (i : Int) < (roots.length : Int) := by omega
      obtain ⟨r, hr⟩ : ∃ r, roots[i]? = some r := ⟨_, List.getElem?_eq_getElem hlt⟩
      obtain ⟨b, off, rfl, hbl, d0, d1, d2⟩ := HCC.out i r hr
      have hgr := HGD.out r (List.mem_of_getElem? hr)
      have HBW : Hid (Below w.heap.size w wx) := ((Below.refl _ _).alloc (Nat.le_refl _) _).trans (hb.mono (by simp))
      have c0 : wx.cell? ⟨b, off + i * 3, none⟩ = some (.string (bytes r.name)) := (HBW.out.cell (p := ⟨b, off + i * 3, none⟩) hbl).trans d0
      have c1 : wx.cell? ⟨b, off + i * 3 + 1, none⟩ = some (.string (bytes r.typ)) := (HBW.out.cell (p := ⟨b, off + i * 3 + 1, none⟩) hbl).trans d1
      have c2 : wx.cell? ⟨b, off + i * 3 + 2, none⟩ = some (.int .i64 r.id) := (HBW.out.cell (p := ⟨b, off + i * 3 + 2, none⟩) hbl).trans d2
      have HR := Lib.hid hr
      have HLT := Lib.hid hlt
      have HNT := Lib.hid (rLines_take hr)
      have HLEN3 : Hid ((rLines (roots.take i)).length ≤ 3000000000) := by
        have h5 := rLines_len (roots.take i) fun x hx => HGD.out x (List.mem_of_mem_take hx)
        have h6 : (roots.take i).length ≤ 1000000 := by rw [List.length_take]; omega
        show _ ≤ _
        omega
      obtain ⟨acc, hacc⟩ : ∃ a, rLines (roots.take i) = a := ⟨_, rfl⟩
      rw [hacc] at HNT HLEN3 ⊢
      have HACC := Lib.hid hacc
      have HN := Lib.hid hgr
      have HI2 := itoa_wr_len r.id
      have HI3 := Lib.hid HI2
      clear d0 d1 d2 hbl hr hlt hb hi hgr hacc HI2
      have hs1 : (bytes r.name).size ≤ 1000 := by rw [bytes_size]; exact HN.out.1
      have hs2 : (bytes r.typ).size ≤ 1000 := by rw [bytes_size]; exact HN.out.2
      have hs3 : (bytes (Lib.itoa (wr r.id))).size ≤ 21 := by rw [bytes_size]; exact HI3.out
      have hs4 : (bytes acc).size ≤ 3000000000 := by rw [bytes_size]; exact HLEN3.out
      have HID := fun W h => numText_any r.id W h
      have HFIN : Hid (bytes acc ++ ((bytes r.name ++ ⟨#[58]⟩ ++ bytes r.typ ++ ⟨#[61, 64]⟩ ++ bytes (Lib.itoa (wr r.id))) ++ ⟨#[10]⟩) = bytes (rLines (roots.take (i + 1)))) := by
        rw [HNT.out]
        apply Go.WideShapes.bytes_inj
        simp [bytes, rLine]
      obtain ⟨nm, hnm⟩ : ∃ x, bytes r.name = x := ⟨_, rfl⟩
      obtain ⟨ty, hty⟩ : ∃ x, bytes r.typ = x := ⟨_, rfl⟩
      obtain ⟨it, hit⟩ : ∃ x, bytes (Lib.itoa (wr r.id)) = x := ⟨_, rfl⟩
      obtain ⟨ac, hac⟩ : ∃ x, bytes acc = x := ⟨_, rfl⟩
      rw [hnm] at c0 hs1 HFIN
      rw [hty] at c1 hs2 HFIN
      rw [hit] at hs3 HFIN
      rw [hac] at hs4 HFIN ⊢
      simp only [hit] at HID
      have HID' := Lib.hid HID
      clear HID hnm hty hit hac
      have HS : Hid (∀ W, Below (wx.alloc (.cells #[.string nm, .string ty, .int .i64 r.id] 36)).heap.size (wx.alloc (.cells #[.string nm, .string ty, .int .i64 r.id] 36)) W → W.cell? ⟨wx.heap.size, 0, none⟩ = some (.string nm) ∧ W.cell? ⟨wx.heap.size, 1, none⟩ = some (.string ty) ∧ W.cell? ⟨wx.heap.size, 2, none⟩ = some (.int .i64 r.id)) := fun W hW => by
        have h9 := (hW.block wx.heap.size (by simp)).trans (World.alloc_heap_new wx _)
        exact ⟨by simp [World.cell?, h9], by simp [World.cell?, h9], by simp [World.cell?, h9]⟩
      have HBA : Hid (∀ W, Below (wx.alloc (.cells #[.string nm, .string ty, .int .i64 r.id] 36)).heap.size (wx.alloc (.cells #[.string nm, .string ty, .int .i64 r.id] 36)) W → Below w.heap.size w W) := fun W hW => HBW.out.trans ((((Below.refl _ _).alloc (Nat.le_refl _) _).trans (hW.mono (by simp))).mono HBW.out.size)
      have q1 : ¬ 9223372036854775807 < nm.size + 1 := by omega
      have q2 : ¬ 9223372036854775807 < nm.size + 1 + ty.size := by omega
      have q3 : ¬ 9223372036854775807 < nm.size + 1 + ty.size + 2 := by omega
      have q4 : ¬ 9223372036854775807 < nm.size + 1 + ty.size + 2 + it.size := by omega
      have q5 : ¬ 9223372036854775807 < nm.size + 1 + ty.size + 2 + it.size + 1 := by omega
      have q6 : ¬ 9223372036854775807 < ac.size + (nm.size + 1 + ty.size + 2 + it.size + 1) := by omega
      clear hs1 hs2 hs3 hs4
      go_wp2
      go_region_held3 (fun w' => w'.cell? ⟨wx.heap.size, 0, none⟩ = some (.string nm) ∧ w'.cell? ⟨wx.heap.size, 1, none⟩ = some (.string ty) ∧ w'.cell? ⟨wx.heap.size, 2, none⟩ = some (.int .i64 r.id))
        (first | exact HS.out _ (Below.refl _ _).drew | exact HS.out _ (Below.refl _ _) | exact HS.out _ HB7.out)
        (first | (go_at_call 27; refine (HID'.out _ (HT.out _ (HBA.out _ (Below.refl _ _).drew))).mono ?_; rintro e w7 ⟨rfl, hb7⟩; have HB7 := Lib.hid ((Below.refl _ _).drew.trans hb7); clear hb7))
      go_wp2
      go_roundg (gk - 1)
      case measure => have := HI.out; have := HLT.out; omega
      case rel => exact ⟨i + 1, by go_num, by have := HI.out; have := HLT.out; omega, by rw [← HFIN.out]; try rfl, HB.out.trans ((((Below.refl _ _).alloc (Nat.le_refl _) _).trans (HB7.out.mono (by simp))).mono HB.out.size)⟩
    · have i1 : ¬ (i : Int) < (roots.length : Int) := by omega
      have hz : roots.take i = roots := List.take_of_length_le (by omega)
      have hb0 := hb.block w.heap.size (by simp)
      rw [World.alloc_heap_new] at hb0
      have c0 : wx.cell? ⟨w.heap.size, 0, none⟩ = some (.slice ao roots.length cap) := by simp [World.cell?, hb0]
      have c1 : wx.cell? ⟨w.heap.size, 1, none⟩ = some (.slice bo objs.length capo) := by simp [World.cell?, hb0]
      rw [hz]
      have HPRE : Hid ((rLines roots).length ≤ 3000000000) := by
        have h5 := rLines_len roots HGD.out
        show _ ≤ _
        omega
      obtain ⟨pre, hpre⟩ : ∃ a, rLines roots = a := ⟨_, rfl⟩
      rw [hpre] at HPRE ⊢
      have HP := Lib.hid hpre
      clear hz hi hlt hpre hb0 hb
      go_wp2
      go_loopg [3, 33] objs.length (fun gk s3 s33 wy => TxO F wx pre objs gk s3 s33 wy)
      case atStart => exact ⟨0, rfl, by omega, by simp [oLines], Below.refl _ _⟩
      case round =>
        rename World => wy
        obtain ⟨i, rfl, hi, rfl, hb⟩ := hrel
        have HI := Lib.hid hi
        have HB2 := Lib.hid hb
        have i0 : (0 : Int) ≤ (i : Int) := by omega
        by_cases hlt : i < objs.length
        · have i1 : (i : Int) < (objs.length : Int) := by omega
          obtain ⟨t, ht⟩ : ∃ t, objs[i]? = some t := ⟨_, List.getElem?_eq_getElem hlt⟩
          obtain ⟨b, off, _, _, _, _, rfl, hbl, _⟩ := HK.out.get ht
          obtain ⟨_, aok, capk, d0, d1, d2, d3, hv⟩ := HK.out.cells ht
          unfold vval at hv
          have htl := HLEN.out t (List.mem_of_getElem? ht)
          have HBW : Hid (Below w.heap.size w wy) := (((Below.refl _ _).alloc (Nat.le_refl _) _).trans (HB.out.mono (by simp))).trans (hb.mono (by have := HB.out.size; simp at this; omega))
          simp only [Nat.zero_add] at d0 d1 d2 d3
          have c0 : wy.cell? ⟨b, off + i * 4, none⟩ = some (.int .i64 t.kind) := (HBW.out.cell (p := ⟨b, off + i * 4, none⟩) hbl).trans d0
          have c1 : wy.cell? ⟨b, off + i * 4 + 1, none⟩ = some (.int .i64 t.num) := (HBW.out.cell (p := ⟨b, off + i * 4 + 1, none⟩) hbl).trans d1
          have c2 : wy.cell? ⟨b, off + i * 4 + 2, none⟩ = some (.string t.text) := (HBW.out.cell (p := ⟨b, off + i * 4 + 2, none⟩) hbl).trans d2
          have c3 : wy.cell? ⟨b, off + i * 4 + 3, none⟩ = some (.slice aok t.kids.length capk) := (HBW.out.cell (p := ⟨b, off + i * 4 + 3, none⟩) hbl).trans d3
          have HVT : Hid (∀ W, Below w.heap.size w W → Calls Tryd.prog 28 #[.agg #[.int .i64 t.kind, .int .i64 t.num, .string t.text, .slice aok t.kids.length capk]] W fun e w' => e = .returned (.string (bytes (t.txt F))) ∧ Below W.heap.size W w') := fun W hW => HV.out t (List.mem_of_getElem? ht) _ W hW hv
          have HNT := Lib.hid (oLines_take (F := F) ht)
          have HL4 : Hid ((oLines F 0 (objs.take i)).length ≤ 1000050000000) := by
            have h5 := oLines_len F (objs.take i) 0 fun x hx => HLEN.out x (List.mem_of_mem_take hx)
            have h6 : (objs.take i).length ≤ 1000000 := by rw [List.length_take]; omega
            show _ ≤ _
            omega
          have hs1 : (bytes (Lib.itoa (wr ((i : Int) + 1)))).size ≤ 21 := by rw [bytes_size]; exact itoa_wr_len _
          have hs2 : (bytes (t.txt F)).size ≤ 1000000 := by rw [bytes_size]; exact htl
          have hs4 : (bytes (pre ++ oLines F 0 (objs.take i))).size ≤ 1100000000000 := by rw [bytes_size, List.length_append]; have := HL4.out; have := HPRE.out; omega
          have HID := fun W h => numText_any ((i : Int) + 1) W h
          have HFIN : Hid (bytes (pre ++ oLines F 0 (objs.take i)) ++ ((⟨#[64]⟩ ++ bytes (Lib.itoa (wr ((i : Int) + 1))) ++ ⟨#[61]⟩ ++ bytes (t.txt F)) ++ ⟨#[10]⟩) = bytes (pre ++ oLines F 0 (objs.take (i + 1)))) := by
            rw [HNT.out, ← List.append_assoc]
            unfold oLine
            exact oJoin _ _ _
          obtain ⟨it, hit⟩ : ∃ x, bytes (Lib.itoa (wr ((i : Int) + 1))) = x := ⟨_, rfl⟩
          obtain ⟨tx, htx⟩ : ∃ x, bytes (t.txt F) = x := ⟨_, rfl⟩
          obtain ⟨ac, hac⟩ : ∃ x, bytes (pre ++ oLines F 0 (objs.take i)) = x := ⟨_, rfl⟩
          rw [hit] at hs1 HFIN
          rw [htx] at hs2 HFIN HVT
          rw [hac] at hs4 HFIN ⊢
          simp only [hit] at HID
          have HID' := Lib.hid HID
          have HLT := Lib.hid hlt
          clear HID hit htx hac d0 d1 d2 d3 hbl hv ht htl hlt hb hi
          have HS : Hid (∀ W, Below (wy.alloc (.cells #[.int .i64 t.kind, .int .i64 t.num, .string t.text, .slice aok t.kids.length capk] 26)).heap.size (wy.alloc (.cells #[.int .i64 t.kind, .int .i64 t.num, .string t.text, .slice aok t.kids.length capk] 26)) W → W.cell? ⟨wy.heap.size, 0, none⟩ = some (.int .i64 t.kind) ∧ W.cell? ⟨wy.heap.size, 1, none⟩ = some (.int .i64 t.num) ∧ W.cell? ⟨wy.heap.size, 2, none⟩ = some (.string t.text) ∧ W.cell? ⟨wy.heap.size, 3, none⟩ = some (.slice aok t.kids.length capk)) := fun W hW => by
            have h9 := (hW.block wy.heap.size (by simp)).trans (World.alloc_heap_new wy _)
            exact ⟨by simp [World.cell?, h9], by simp [World.cell?, h9], by simp [World.cell?, h9], by simp [World.cell?, h9]⟩
          have HBA : Hid (∀ W, Below (wy.alloc (.cells #[.int .i64 t.kind, .int .i64 t.num, .string t.text, .slice aok t.kids.length capk] 26)).heap.size (wy.alloc (.cells #[.int .i64 t.kind, .int .i64 t.num, .string t.text, .slice aok t.kids.length capk] 26)) W → Below w.heap.size w W) := fun W hW => HBW.out.trans ((((Below.refl _ _).alloc (Nat.le_refl _) _).trans (hW.mono (by simp))).mono HBW.out.size)
          have q1 : ¬ 9223372036854775807 < 1 + it.size := by omega
          have q2 : ¬ 9223372036854775807 < 1 + it.size + 1 := by omega
          have q3 : ¬ 9223372036854775807 < 1 + it.size + 1 + tx.size := by omega
          have q4 : ¬ 9223372036854775807 < 1 + it.size + 1 + tx.size + 1 := by omega
          have q5 : ¬ 9223372036854775807 < ac.size + (1 + it.size + 1 + tx.size + 1) := by omega
          have hw1 : IntKind.i64.wrap ((i : Int) + 1) = (i : Int) + 1 := by rw [IntKind.wrap_i64]; omega
          clear hs1 hs2 hs4
          go_wp2
          go_region_held3 (fun w' => w'.cell? ⟨wy.heap.size, 0, none⟩ = some (.int .i64 t.kind) ∧ w'.cell? ⟨wy.heap.size, 1, none⟩ = some (.int .i64 t.num) ∧ w'.cell? ⟨wy.heap.size, 2, none⟩ = some (.string t.text) ∧ w'.cell? ⟨wy.heap.size, 3, none⟩ = some (.slice aok t.kids.length capk))
            (first | exact HS.out _ (Below.refl _ _).drew | exact HS.out _ (Below.refl _ _) | exact HS.out _ HB7.out | exact HS.out _ HB8.out)
            (first
              | (go_at_call 27; refine (HID'.out _ (HT.out _ (HBA.out _ (Below.refl _ _).drew))).mono ?_; rintro e w7 ⟨rfl, hb7⟩; have HB7 := Lib.hid ((Below.refl _ _).drew.trans hb7); clear hb7)
              | (go_at_call 28; refine (HVT.out _ (HBA.out _ HB7.out)).mono ?_; rintro e w8 ⟨rfl, hb8⟩; have HB8 := Lib.hid (HB7.out.trans (hb8.mono HB7.out.size)); clear hb8))
          go_wp2
          go_roundg (gk - 1)
          case measure => have := HI.out; have := HLT.out; omega
          case rel => exact ⟨i + 1, by go_num, by have := HI.out; have := HLT.out; omega, by rw [← HFIN.out]; try rfl, HB2.out.trans ((((Below.refl _ _).alloc (Nat.le_refl _) _).trans (HB8.out.mono (by simp))).mono HB2.out.size)⟩
        · have i1 : ¬ (i : Int) < (objs.length : Int) := by omega
          have hz : objs.take i = objs := List.take_of_length_le (by omega)
          rw [hz]
          have HE : Hid (bytes (pre ++ oLines F 0 objs) = bytes (graphTxt F ⟨roots, objs⟩)) := by rw [← HP.out]; rfl
          clear hz hi hlt hb
          rw [HE.out]
          go_wp2
          go_ret
          exact ⟨rfl, (((Below.refl _ _).alloc (Nat.le_refl _) _).trans (HB.out.mono (by simp))).trans (HB2.out.mono (by have := HB.out.size; simp at this; omega))⟩
end Go.Proofs.YtenikoecnfbfoaaDoor
/- Layer 8: the small graph that every law looks at, in plain words. -/
namespace Go.Proofs.YtenikoecnfbfoaaDoor
namespace Gr
open Wr
set_option linter.unusedVariables false
set_option linter.unusedSimpArgs false
def gA : VT := .node 0 1 ⟨#[]⟩ []
def gB : VT := .node 5 7 ⟨#[]⟩ []
def gC : VT := .node 5 2 ⟨#[]⟩ []
def ra : RT := ⟨[97], [116], 5⟩
def rb : RT := ⟨[98], [116], 7⟩
theorem sort_ab : sortO [rb, ra] [] = some [ra, rb] := by rfl
theorem gA_ok : encErr gA = 0 := by
  have h1 : gA.right 1 = true := by simp [gA, VT.right_node, VT.rights_cons, VT.rights_nil, fitsB, emptyB, wr]; decide
  have h2 : gA.enc.length ≤ 16384 := by simp [gA, VT.enc, VT.encs, topOf, num, zig, var]
  exact (encErr_ok h1 (by omega)).1
theorem gB_ok : encErr gB = 0 := by
  have h1 : gB.right 1 = true := by simp [gB, VT.right_node, VT.rights_cons, VT.rights_nil, fitsB, emptyB, wr]; decide
  have h2 : gB.enc.length ≤ 16384 := by simp [gB, VT.enc, VT.encs, topOf, num, zig, var]
  exact (encErr_ok h1 (by omega)).1
theorem gD_ok : encErr (dirV [ra, rb]) = 0 := by
  have h1 : (dirV [ra, rb]).right 1 = true := by simp [dirV, tupV, strV, refV, noneV, ra, rb, bytes, VT.right_node, VT.rights_cons, VT.rights_nil, fitsB, emptyB, wr]; decide
  have h2 : (dirV [ra, rb]).enc.length ≤ 16384 := by simp [dirV, tupV, strV, refV, noneV, ra, rb, bytes, VT.enc, VT.encs, topOf, str, num, zig, var]
  exact (encErr_ok h1 (by omega)).1
def gG : GT := ⟨[⟨[97], [116], 1⟩, ⟨[98], [116], 2⟩], [gC, gA]⟩
theorem make_ab : makeT [rb, ra] [(7, gA), (5, gB)] = (gG, 0) := by
  have hd : dirT [rb, ra] = (dirV [ra, rb], 0) := by
    unfold dirT
    rw [if_neg (by decide), sort_ab]
    simp only [gD_ok, if_true]
  have hb : bfs [(7, gA), (5, gB)] 3 0 ([ra, rb].map RT.id |>.foldl meetT []) [] = some ([5, 7], [gB, gA]) := by
    simp [bfs, meetT, ra, rb, findO, gA, gB, VT.refs_node, VT.refsL_nil]
  unfold makeT
  rw [hd, if_neg (by decide), if_neg (by simp [gA_ok, gB_ok]), sort_ab]
  simp only [List.length_cons, List.length_nil, hb]
  have e1 : numOf [5, 7] 5 = 1 := by rfl
  have e2 : numOf [5, 7] 7 = 2 := by rfl
  have m1 : gA.move (firstP (pairs [5, 7])) = some gA := by rfl
  have m2 : gB.move (firstP (pairs [5, 7])) = some gC := by rfl
  simp only [List.map_cons, List.map_nil, m1, m2, ra, rb, e1, e2, Option.getD_some, gG]
theorem text_ab (F : Nat → List UInt8) : graphTxt F gG = [97, 58, 116, 61, 64, 49, 10, 98, 58, 116, 61, 64, 50, 10, 64, 49, 61, 64, 50, 10, 64, 50, 61, 49, 10] := by
  simp [graphTxt, gG, rLines, rLine, oLines, oLine, gC, gA, VT.txt, VT.txts, topTxt, Lib.itoa, Lib.decDigits, wr, Lib.join, List.intercalate]
theorem text_len (F : Nat → List UInt8) : ∀ t ∈ gG.objs, (t.txt F).length ≤ 1000000 := by
  intro t ht
  simp only [gG, List.mem_cons, List.not_mem_nil, or_false] at ht
  rcases ht with rfl | rfl
  · simp [gC, VT.txt, VT.txts, topTxt, Lib.itoa, Lib.decDigits, wr, Lib.join, List.intercalate]
  · simp [gA, VT.txt, VT.txts, topTxt, Lib.itoa, Lib.decDigits, wr, Lib.join, List.intercalate]
end Gr
end Go.Proofs.YtenikoecnfbfoaaDoor
/- Layer 8: the document's Text of a graph. -/
namespace Go.Proofs.YtenikoecnfbfoaaDoor
open Go.RowKit
set_option linter.unusedVariables false
set_option linter.unusedSimpArgs false
open Gr (RT GT)
theorem rJoin (A n t c : List UInt8) : bytes A ++ bytes n ++ ⟨#[58]⟩ ++ bytes t ++ ⟨#[61, 64]⟩ ++ bytes c ++ ⟨#[10]⟩ = bytes (A ++ (n ++ [58] ++ t ++ [61, 64] ++ c ++ [10])) := by
  apply Go.WideShapes.bytes_inj
  simp [bytes]
theorem oJoinR (A a c : List UInt8) : bytes A ++ ⟨#[64]⟩ ++ bytes a ++ ⟨#[61]⟩ ++ bytes c ++ ⟨#[10]⟩ = bytes (A ++ ([64] ++ a ++ [61] ++ c ++ [10])) := by
  apply Go.WideShapes.bytes_inj
  simp [bytes]
end Go.Proofs.YtenikoecnfbfoaaDoor
/- Layer 8: the program's Same of graphs. -/
namespace Go.Proofs.YtenikoecnfbfoaaDoor
open Go.RowKit
set_option linter.unusedVariables false
set_option linter.unusedSimpArgs false
open Gr (RT GT)
deriving instance DecidableEq for Gr.RT
theorem rt_eq_iff (x y : RT) : x = y ↔ x.name = y.name ∧ x.typ = y.typ ∧ x.id = y.id := by
  obtain ⟨a, b, c⟩ := x; obtain ⟨a', b', c'⟩ := y; simp
theorem bytes_toList (l : List UInt8) : (bytes l).toList = l := by
  rw [ByteArray.toList_eq]; simp [bytes]
theorem fields3 {fs : List Field} {S I : TypeId} (h : fs.map (fun f => (decide (f.name ≠ "_"), f.type, f.offset)) = [(true, S, 0), (true, S, 1), (true, I, 2)]) : ∃ f0 f1 f2 : Field, fs = [f0, f1, f2] ∧ (f0.name ≠ "_" ∧ f0.type = S ∧ f0.offset = 0) ∧ (f1.name ≠ "_" ∧ f1.type = S ∧ f1.offset = 1) ∧ (f2.name ≠ "_" ∧ f2.type = I ∧ f2.offset = 2) := by
  have hl : fs.length = 3 := by have := congrArg List.length h; simpa using this
  obtain ⟨f0, f1, f2, rfl⟩ : ∃ f0 f1 f2, fs = [f0, f1, f2] := by
    cases fs with
    | nil => cases hl
    | cons f0 fs => cases fs with
      | nil => cases hl
      | cons f1 fs => cases fs with
        | nil => cases hl
        | cons f2 fs => cases fs with
          | nil => exact ⟨f0, f1, f2, rfl⟩
          | cons f3 fs => simp at hl
  simp only [List.map_cons, List.map_nil, List.cons.injEq, Prod.mk.injEq, decide_eq_true_eq, and_true] at h
  exact ⟨f0, f1, f2, rfl, h.1, h.2.1, h.2.2⟩
theorem rt_eqF (x y : RT) (w : World) {fs : List Field} (h : fs.map (fun f => (decide (f.name ≠ "_"), f.type, f.offset)) = [(true, 9, 0), (true, 9, 1), (true, 3, 2)]) : Sem.run Tryd.prog (Op.eqFields 9999 (rcs x).toArray (rcs y).toArray fs) w = .ok (decide (x = y)) w := by
  obtain ⟨f0, f1, f2, rfl, ⟨a0, b0, c0⟩, ⟨a1, b1, c1⟩, ⟨a2, b2, c2⟩⟩ := fields3 h
  have hs := fun (a b : ByteArray) => run_equalIn_string (P := Tryd.prog) w 9998 9 a b Tryd.underlying9
  have hi := fun (a b : Int) => run_equalIn_int (P := Tryd.prog) w 9998 3 .i64 _ a b Tryd.underlying3
  have k1 : Tryd.prog.plainKey 9 = true := by kernel_rfl
  have k2 : Tryd.prog.plainKey 3 = true := by kernel_rfl
  have P0 : ∀ r : RT, Sem.run Tryd.prog (part 9 (rcs r).toArray 0) w = .ok (.string (bytes r.name)) w := fun r => run_part_plain w k1 rfl
  have P1 : ∀ r : RT, Sem.run Tryd.prog (part 9 (rcs r).toArray 1) w = .ok (.string (bytes r.typ)) w := fun r => run_part_plain w k1 rfl
  have P2 : ∀ r : RT, Sem.run Tryd.prog (part 3 (rcs r).toArray 2) w = .ok (.int .i64 r.id) w := fun r => run_part_plain w k2 rfl
  simp only [Op.eqFields, a0, a1, a2, b0, b1, b2, c0, c1, c2, ne_eq, not_false_eq_true, if_true, Sem.run_bind, P0, P1, P2, Result.andThen_ok, hs, hi, bytes_toList]
  by_cases h0 : x.name = y.name <;> by_cases h1 : x.typ = y.typ <;> by_cases h2 : x.id = y.id <;> simp [h0, h1, h2, rt_eq_iff, hs, hi, P0, P1, P2, bytes_toList]
theorem rt_neq (x y : RT) (w : World) : Sem.run Tryd.prog (binOp .neq 36 (.agg (rcs x).toArray) (.agg (rcs y).toArray)) w = .ok (.bool (!(decide (x = y)))) w := by
  rw [run_neq_struct, run_equalIn_agg w 9999 _ _ _ (by kernel_rfl) (by kernel_rfl), rt_eqF x y w (by kernel_rfl)]
  rfl
theorem rt_guard (op : BinOp) (a b : Operand) (x y : RT) (w : World) : Sem.run Tryd.prog (eqGuard op 36 a b (.agg (rcs x).toArray) (.agg (rcs y).toArray)) w = .ok () w := run_eqGuard_agg w op _ a b _ _ (by kernel_rfl)
def EqRI (w : World) (la lb : List RT) (k : Nat) (s13 : Value) (wx : World) : Prop :=
  ∃ i : Nat, s13 = .int .i64 (i : Int) ∧ i + k = la.length ∧ decide (la = lb) = decide (la.drop i = lb.drop i) ∧ Below w.heap.size w wx
theorem drop_eq_step {la lb : List RT} {i : Nat} {x y : RT} (hx : la[i]? = some x) (hy : lb[i]? = some y) : decide (la.drop i = lb.drop i) = (decide (x = y) && decide (la.drop (i + 1) = lb.drop (i + 1))) := by
  have e1 : la.drop i = x :: la.drop (i + 1) := by rw [List.drop_eq_getElem?_toList_append, hx]; rfl
  have e2 : lb.drop i = y :: lb.drop (i + 1) := by rw [List.drop_eq_getElem?_toList_append, hy]; rfl
  rw [e1, e2]
  simp [Bool.decide_and]
set_option maxRecDepth 100000 in
set_option maxHeartbeats 4000000 in
theorem eqRoots_any (w : World) (va vb : Value) (la lb : List RT) (ha : RtAt w va la) (hb : RtAt w vb lb) (hl : la.length ≤ 1000000) (hl2 : lb.length ≤ 1000000) :
    Calls Tryd.prog 15 #[va, vb] w fun e w' => e = .returned (.bool (decide (la = lb))) ∧ Below w.heap.size w w' := by
  obtain ⟨ao, ca, rfl, hca⟩ := ha.cells
  obtain ⟨bo, cb, rfl, hcb⟩ := hb.cells
  have HCA := Lib.hid hca
  have HCB := Lib.hid hcb
  clear ha hb hca hcb
  by_cases hlen : la.length = lb.length
  · have hlq : ((la.length : Int) != (lb.length : Int)) = false := by simp [hlen]
    have HLEN := Lib.hid hlen
    have hl3 : (la.length : Int) ≤ 1000000 := by omega
    clear hlen hl hl2
    go_enter Tryd.func15, Tryd.ntmps15
    go_wp2
    go_loopg [13] la.length (fun gk s13 wx => EqRI w la lb gk s13 wx)
    case atStart => exact ⟨0, rfl, by omega, rfl, Below.refl _ _⟩
    case round =>
      rename World => wx
      obtain ⟨i, rfl, hi, hr, hb⟩ := hrel
      have HI := Lib.hid hi
      have HB := Lib.hid hb
      have HR := Lib.hid hr
      have i0 : (0 : Int) ≤ (i : Int) := by omega
      by_cases hlt : i < la.length
      · have i1 : (i : Int) < (la.length : Int) := by omega
        have i2 : (i : Int) < (lb.length : Int) := by have := HLEN.out; omega
        obtain ⟨x, hx⟩ : ∃ r, la[i]? = some r := ⟨_, List.getElem?_eq_getElem hlt⟩
        obtain ⟨y, hy⟩ : ∃ r, lb[i]? = some r := ⟨_, List.getElem?_eq_getElem (by have := HLEN.out; omega)⟩
        obtain ⟨b, off, rfl, hbl, d0, d1, d2⟩ := HCA.out i x hx
        obtain ⟨b', off', rfl, hbl', e0, e1, e2⟩ := HCB.out i y hy
        replace d0 := (hb.cell (p := ⟨b, off + i * 3, none⟩) hbl).trans d0
        replace d1 := (hb.cell (p := ⟨b, off + i * 3 + 1, none⟩) hbl).trans d1
        replace d2 := (hb.cell (p := ⟨b, off + i * 3 + 2, none⟩) hbl).trans d2
        replace e0 := (hb.cell (p := ⟨b', off' + i * 3, none⟩) hbl').trans e0
        replace e1 := (hb.cell (p := ⟨b', off' + i * 3 + 1, none⟩) hbl').trans e1
        replace e2 := (hb.cell (p := ⟨b', off' + i * 3 + 2, none⟩) hbl').trans e2
        have HD := Lib.hid (drop_eq_step hx hy)
        have hn : ∀ W, Sem.run Tryd.prog (binOp .neq 36 (.agg #[.string (bytes x.name), .string (bytes x.typ), .int .i64 x.id]) (.agg #[.string (bytes y.name), .string (bytes y.typ), .int .i64 y.id])) W = .ok (.bool (!(decide (x = y)))) W := fun W => rt_neq x y W
        have hg : ∀ (op : BinOp) (a b : Operand) W, Sem.run Tryd.prog (eqGuard op 36 a b (.agg #[.string (bytes x.name), .string (bytes x.typ), .int .i64 x.id]) (.agg #[.string (bytes y.name), .string (bytes y.typ), .int .i64 y.id])) W = .ok () W := fun op a b W => rt_guard op a b x y W
        have HLT := Lib.hid hlt
        clear hr hb hi hbl hbl' hx hy hlt
        generalize decide (x = y) = q at hn HD
        generalize bytes x.name = x0 at *
        generalize bytes x.typ = x1 at *
        generalize x.id = x2 at *
        generalize bytes y.name = y0 at *
        generalize bytes y.typ = y1 at *
        generalize y.id = y2 at *
        cases q
        · go_wp2
          go_quiet (fail)
          go_wp2
          go_ret
          refine ⟨ret_bool ?_, below_drewN HB.out _⟩
          rw [HR.out, HD.out, Bool.false_and]
        · go_wp2
          go_quiet (fail)
          go_wp2
          go_roundg (gk - 1)
          case measure => have := HI.out; have := HLT.out; omega
          case rel => exact ⟨i + 1, by go_num, by have := HI.out; have := HLT.out; omega, by rw [HR.out, HD.out, Bool.true_and], below_drewN HB.out _⟩
      · have i1 : ¬ (i : Int) < (la.length : Int) := by omega
        have hz : decide (la = lb) = true := by rw [hr, List.drop_of_length_le (by omega), List.drop_of_length_le (by have := HLEN.out; omega)]; rfl
        have HZ := Lib.hid hz
        clear hz hr hi hb hlt
        go_wp2
        go_ret
        exact ⟨ret_bool HZ.out.symm, HB.out⟩
  · have hlq : ((la.length : Int) != (lb.length : Int)) = true := by simp; omega
    have hs : decide (la = lb) = false := by simp; intro h; exact hlen (by rw [h])
    rw [hs]
    go_enter Tryd.func15, Tryd.ntmps15
    go_wp2
    go_ret
    exact ⟨rfl, Below.refl _ _⟩
theorem VsAt.below {w w' : World} {v : Value} {l : List VT} (h : VsAt w v l) (hb : Below w.heap.size w w') : VsAt w' v l := by
  obtain ⟨ao, cap, h1, h2, h3, h4, h5⟩ := h
  exact ⟨ao, cap, h1, h2, h3, h4, h5.keep (fun b hb' => Nat.lt_of_lt_of_le hb' hb.size) (fun p hp => hb.cell hp)⟩
set_option maxRecDepth 100000 in
/-- slices.EqualFunc with val.Same, of two rows of values. -/
theorem eqVals_any (w : World) (la lb : List VT) (va vb : Value) (ha : VsAt w va la) (hb : VsAt w vb lb) :
    Calls Tryd.prog 16 #[va, vb, .func (.func 17) #[] #[]] w fun e w' => e = .returned (.bool (VT.sames la lb)) ∧ Below w.heap.size w w' := by
  obtain ⟨ao, ca, rfl, a1, a2, _, ka⟩ := ha
  obtain ⟨bo, cb, rfl, b1, b2, _, kb⟩ := hb
  refine eqf_walk _ (fun _ _ => by rfl) la lb ao bo ca cb w a1 a2 b1 b2 ka kb ?_
  intro W i ta tb va vb hW hta htb hva hvb
  refine (same_walk ta.sz ta tb va vb W (fun b => b < w.heap.size) (Nat.le_refl _) (hva.below hW (fun b hb => hb)) (hvb.below hW (fun b hb => hb)) (fun b hb => Nat.lt_of_lt_of_le hb hW.size)).mono ?_
  rintro e w' ⟨rfl, hb⟩
  exact ⟨rfl, hW.trans (hb.mono hW.size)⟩
def graphSame (a b : GT) : Bool := decide (a.roots = b.roots) && VT.sames a.objs b.objs
set_option maxRecDepth 100000 in
set_option maxHeartbeats 4000000 in
theorem graphSame_any (w : World) (ra oa rb ob : Value) (A B : GT) (h1 : RtAt w ra A.roots) (h2 : VsAt w oa A.objs) (h3 : RtAt w rb B.roots) (h4 : VsAt w ob B.objs) (hl : A.roots.length ≤ 1000000) (hl2 : B.roots.length ≤ 1000000) :
    Calls Tryd.prog 6 #[.agg #[ra, oa], .agg #[rb, ob]] w fun e w' => e = .returned (.bool (graphSame A B)) ∧ Below w.heap.size w w' := by
  have HE : Hid (∀ W, Below w.heap.size w W → Calls Tryd.prog 15 #[ra, rb] W fun e w' => e = .returned (.bool (decide (A.roots = B.roots))) ∧ Below W.heap.size W w') := fun W hW => eqRoots_any W ra rb _ _ (h1.below hW) (h3.below hW) hl hl2
  have HF : Hid (∀ W, Below w.heap.size w W → Calls Tryd.prog 16 #[oa, ob, .func (.func 17) #[] #[]] W fun e w' => e = .returned (.bool (VT.sames A.objs B.objs)) ∧ Below W.heap.size W w') := fun W hW => eqVals_any W _ _ oa ob (h2.below hW) (h4.below hW)
  obtain ⟨a1, c1, rfl, _⟩ := h1.cells
  obtain ⟨a2, c2, rfl, _⟩ := h2
  obtain ⟨a3, c3, rfl, _⟩ := h3.cells
  obtain ⟨a4, c4, rfl, _⟩ := h4
  have hB2 : Hid (∀ o1 o2, Below w.heap.size w ((w.alloc o1).alloc o2)) := fun o1 o2 => ((Below.refl _ _).alloc (Nat.le_refl _) _).trans ((Below.refl _ _).alloc (by simp) _)
  have HKEEP : Hid (∀ (x0 x1 y0 y1 : Value) W, Below ((w.alloc (.cells #[x0, x1] 31)).alloc (.cells #[y0, y1] 31)).heap.size ((w.alloc (.cells #[x0, x1] 31)).alloc (.cells #[y0, y1] 31)) W → W.cell? ⟨w.heap.size, 1, none⟩ = some x1 ∧ W.cell? ⟨w.heap.size + 1, 1, none⟩ = some y1) := fun x0 x1 y0 y1 W hW => by
    obtain ⟨g1, g2, _, _⟩ := two_new w W _ _ _ _ hW
    exact ⟨by simp [World.cell?, g1], by simp [World.cell?, g2]⟩
  have HQ : Hid (graphSame A B = (decide (A.roots = B.roots) && VT.sames A.objs B.objs)) := rfl
  rw [HQ.out]
  clear h1 h3 hl hl2
  generalize decide (A.roots = B.roots) = q at HE ⊢
  cases q
  · go_enter Tryd.func6, Tryd.ntmps6
    go_wp2_with ((go_at_call 15; refine (HE.out _ (hB2.out _ _)).mono ?_; rintro e w7 ⟨rfl, hb7⟩; have HB7 := Lib.hid ((hB2.out _ _).trans (hb7.mono (by simp; omega))); obtain ⟨k1, k2⟩ := HKEEP.out _ _ _ _ _ hb7; clear hb7))
    go_ret
    exact ⟨rfl, HB7.out⟩
  · go_enter Tryd.func6, Tryd.ntmps6
    go_wp2_with (first
      | (go_at_call 15; refine (HE.out _ (hB2.out _ _)).mono ?_; rintro e w7 ⟨rfl, hb7⟩; have HB7 := Lib.hid ((hB2.out _ _).trans (hb7.mono (by simp; omega))); obtain ⟨k1, k2⟩ := HKEEP.out _ _ _ _ _ hb7; clear hb7)
      | (go_at_call 16; refine (HF.out _ HB7.out).mono ?_; rintro e w8 ⟨rfl, hb8⟩; have HB8 := Lib.hid (HB7.out.trans (hb8.mono HB7.out.size)); clear hb8))
    go_ret
    exact ⟨ret_bool (by simp), HB8.out⟩
end Go.Proofs.YtenikoecnfbfoaaDoor
/- Layer 8: the small graph that every law looks at: the walk. -/
namespace Go.Proofs.YtenikoecnfbfoaaDoor
open Go.RowKit
set_option linter.unusedVariables false
set_option linter.unusedSimpArgs false
open Gr (RT GT gA gB gC ra rb gG)
def noF : Nat → List UInt8 := fun _ => []
def obA : OB := ⟨7, 0, 1, ⟨#[]⟩, none, 0, 0⟩
def obB : OB := ⟨5, 5, 7, ⟨#[]⟩, none, 0, 0⟩
theorem obs_ab (w : World) (P : Nat → Prop) : ObsIs w P [obA, obB] [(7, gA), (5, gB)] := ⟨rfl, fun j x o hx ho => by
  match j, hx, ho with
  | 0, hx, ho => cases hx; cases ho; exact ⟨rfl, leaf_is w P 0 1 _ (by decide) (by decide) (sz_max _ (by decide)), by decide⟩
  | 1, hx, ho => cases hx; cases ho; exact ⟨rfl, leaf_is w P 5 7 _ (by decide) (by decide) (sz_max _ (by decide)), by decide⟩⟩
abbrev rootBox : Array Value := #[.string ⟨#[98]⟩, .string ⟨#[116]⟩, .int .i64 7, .string ⟨#[97]⟩, .string ⟨#[116]⟩, .int .i64 5]
abbrev objBox : Array Value := #[.int .i64 7, .int .i64 0, .int .i64 1, .string ⟨#[]⟩, .slice none 0 0, .int .i64 5, .int .i64 5, .int .i64 7, .string ⟨#[]⟩, .slice none 0 0]
theorem rt_ab (W : World) (b : Nat) (T : TypeId) (h : W.heap[b]? = some (.cells rootBox T (0, 0))) : RtAt W (.slice (some ⟨b, 0, none⟩) 2 2) [rb, ra] := by
  refine ⟨some ⟨b, 0, none⟩, 2, rfl, Nat.le_refl _, by unfold maxLen; omega, (fun e => by cases e), (fun b' off s e => by cases e; exact ⟨rfl, lt_of_block h⟩), fun j u hj => ⟨b, 0, rfl, ?_⟩⟩
  rw [Nat.zero_add]
  unfold World.cell?
  rw [h]
  show rootBox[j]? = some u
  rw [← Array.getElem?_toList]
  exact hj
theorem ob_ab (W : World) (b : Nat) (T : TypeId) (h : W.heap[b]? = some (.cells objBox T (0, 0))) : ObAt W (.slice (some ⟨b, 0, none⟩) 2 2) [obA, obB] := by
  refine ⟨some ⟨b, 0, none⟩, 2, rfl, Nat.le_refl _, by unfold maxLen; omega, (fun e => by cases e), (fun b' off s e => by cases e; exact ⟨rfl, lt_of_block h⟩), fun j x hj => ⟨b, 0, rfl, ?_⟩⟩
  have c : ∀ k u, objBox[k]? = some u → W.cell? ⟨b, k, none⟩ = some u := fun k u hk => by unfold World.cell?; rw [h]; exact hk
  match j, hj with
  | 0, hj => cases hj; exact ⟨c 0 _ rfl, c 1 _ rfl, c 2 _ rfl, c 3 _ rfl, c 4 _ rfl⟩
  | 1, hj => cases hj; exact ⟨c 5 _ rfl, c 6 _ rfl, c 7 _ rfl, c 8 _ rfl, c 9 _ rfl⟩
/-- A graph that Make gave. -/
def GIs (W : World) (v : Value) (g : GT) : Prop := ∃ a1 c1 a2 c2, v = .agg #[.slice a1 g.roots.length c1, .slice a2 g.objs.length c2] ∧ RtAt W (.slice a1 g.roots.length c1) g.roots ∧ VsAt W (.slice a2 g.objs.length c2) g.objs
theorem MakeEnd.gis {w : World} {r : GT × Int} {e : Ending} {w' : World} (h : MakeEnd w r e w') : ∃ a1 c1 a2 c2, e = .returned (.tuple #[.agg #[.slice a1 r.1.roots.length c1, .slice a2 r.1.objs.length c2], .int .i64 r.2]) ∧ RtAt w' (.slice a1 r.1.roots.length c1) r.1.roots ∧ VsAt w' (.slice a2 r.1.objs.length c2) r.1.objs ∧ Below w.heap.size w w' := by
  obtain ⟨vr, vo, h1, h2, h3, h4⟩ := h
  obtain ⟨a1, c1, rfl, _⟩ := h2.cells
  have h3' := h3
  obtain ⟨a2, c2, rfl, _⟩ := h3
  exact ⟨a1, c1, a2, c2, h1, h2, h3', h4⟩
def TwoAb (W : World) (br bo : Nat) : Prop := (∃ T, W.heap[br]? = some (.cells rootBox T (0, 0))) ∧ ∃ T, W.heap[bo]? = some (.cells objBox T (0, 0))
theorem make_abW {W : World} {br bo : Nat} (h : TwoAb W br bo) : Calls Tryd.prog 4 #[.slice (some ⟨br, 0, none⟩) 2 2, .slice (some ⟨bo, 0, none⟩) 2 2] W (MakeEnd W (gG, 0)) := by
  obtain ⟨⟨T, h1⟩, U, h2⟩ := h
  have := make_any W _ _ [rb, ra] [obA, obB] [(7, gA), (5, gB)] (rt_ab W br T h1) (by simp) (fun r hr => by
      simp only [List.mem_cons, List.not_mem_nil, or_false] at hr
      rcases hr with rfl | rfl
      · exact ⟨by decide, by decide, by decide⟩
      · exact ⟨by decide, by decide, by decide⟩) (ob_ab W bo U h2) (obs_ab _ _) (by simp) (fun o ho => by
      simp only [List.mem_cons, List.not_mem_nil, or_false] at ho
      rcases ho with rfl | rfl
      · simp [gA, VT.sz, VT.szs]
      · simp [gB, VT.sz, VT.szs])
  rwa [Gr.make_ab] at this
theorem gG_text (w : World) (hT : Tab w) (t : VT) (ht : t ∈ gG.objs) (v : Value) (W : World) (hW : Below w.heap.size w W) (hv : ValIs w (fun b => b < w.heap.size) t v) : Calls Tryd.prog 28 #[v] W fun e w' => e = .returned (.string (bytes (t.txt noF))) ∧ Below W.heap.size W w' := by
  have h : ∀ (n : Int), t.right 1 = true ∧ t.noFl = true → Calls Tryd.prog 28 #[v] W fun e w' => e = .returned (.string (bytes (t.txt noF))) ∧ Below W.heap.size W w' := fun n h =>
    text_walk noF false w hT (fun h => by cases h) t.sz t v W _ 1 (Nat.le_refl _) h.1 (.inr h.2) (hv.below hW (fun b hb => hb)) (fun b hb => Nat.lt_of_lt_of_le hb hW.size) hW (Gr.text_len noF t ht)
  refine h 0 ?_
  simp only [gG, List.mem_cons, List.not_mem_nil, or_false] at ht
  rcases ht with rfl | rfl
  · simp [gC, VT.right_node, VT.rights_cons, VT.rights_nil, fitsB, emptyB, wr, VT.noFl, VT.noFls]; decide
  · simp [gA, VT.right_node, VT.rights_cons, VT.rights_nil, fitsB, emptyB, wr, VT.noFl, VT.noFls]; decide
theorem text_abW {W : World} {vr vo : Value} (hT : Tab W) (hr : RtAt W vr gG.roots) (ho : VsAt W vo gG.objs) : Calls Tryd.prog 14 #[.agg #[vr, vo]] W fun e w' => e = .returned (.string ⟨#[97, 58, 116, 61, 64, 49, 10, 98, 58, 116, 61, 64, 50, 10, 64, 49, 61, 64, 50, 10, 64, 50, 61, 49, 10]⟩) ∧ Below W.heap.size W w' := by
  have := graphText_any noF W vr vo gG.roots gG.objs hT hr ho (by decide) (by decide) (by decide) (Gr.text_len noF) (gG_text W hT)
  have e : bytes (graphTxt noF ⟨gG.roots, gG.objs⟩) = ⟨#[97, 58, 116, 61, 64, 49, 10, 98, 58, 116, 61, 64, 50, 10, 64, 49, 61, 64, 50, 10, 64, 50, 61, 49, 10]⟩ := by
    have := Gr.text_ab noF
    rw [show (⟨gG.roots, gG.objs⟩ : GT) = gG from rfl, this]
    rfl
  rwa [e] at this
set_option maxRecDepth 100000 in
set_option maxHeartbeats 4000000 in
theorem graphs_any (w : World) (hT : Tab w) : Calls Tryd.prog 5 #[] w fun e w' => e = .returned (.bool true) ∧ Below w.heap.size w w' := by
  have HT := Lib.hid hT
  clear hT
  go_enter Tryd.func5, Tryd.ntmps5
  have hab : TwoAb ((w.alloc (.cells rootBox 36)).alloc (.cells objBox 28)) w.heap.size (w.heap.size + 1) :=
    ⟨⟨_, (Below.heap_alloc _ _ _ (by simp)).trans (World.alloc_heap_new _ _)⟩, _, by simpa using World.alloc_heap_new (w.alloc (.cells rootBox 36)) (.cells objBox 28)⟩
  have HM := Lib.hid (make_abW hab)
  have HB := Lib.hid (((Below.refl w.heap.size w).alloc (Nat.le_refl _) (.cells rootBox 36)).trans ((Below.refl _ _).alloc (by simp) (.cells objBox 28)))
  have HSZ : Hid (((w.alloc (.cells rootBox 36)).alloc (.cells objBox 28)).heap.size = w.heap.size + 2) := by show _ = _; simp
  clear hab
  go_wp2_with (first
    | (go_at_call 4; refine HM.out.mono ?_; rintro e w1 h1; obtain ⟨a1, c1, a2, c2, rfl, hr, ho, hb⟩ := h1.gis; dsimp only [gG, List.length_cons, List.length_nil]; have HR := Lib.hid hr; have HO := Lib.hid ho; have HB1 := Lib.hid (HB.out.trans (hb.mono (by rw [HSZ.out]; omega))); clear h1 hr ho hb)
    | (go_at_call 14; refine (text_abW ((HT.out.below HB1.out).below ((Below.refl _ _).alloc (Nat.le_refl _) _)) (HR.out.below ((Below.refl _ _).alloc (Nat.le_refl _) _)) (HO.out.below ((Below.refl _ _).alloc (Nat.le_refl _) _))).mono ?_; rintro e w2 ⟨rfl, hb2⟩; have HB2 := Lib.hid (HB1.out.trans (((Below.refl _ _).alloc (Nat.le_refl _) _).trans (hb2.mono (by simp)) |>.mono HB1.out.size)); clear hb2))
  go_ret
  exact ⟨rfl, HB2.out⟩
end Go.Proofs.YtenikoecnfbfoaaDoor
/- Layer 8: the law GraphRings: the walk. -/
namespace Go.Proofs.YtenikoecnfbfoaaDoor
open Go.RowKit
set_option linter.unusedVariables false
set_option linter.unusedSimpArgs false
open Gr (RT GT makeT rv rr ringG findO)
def rOb (p : Int × Int) : OB := ⟨p.1, 5, p.2, ⟨#[]⟩, none, 0, 0⟩
/-- A row of objects that are references. -/
def RgRow (w : World) (N : Nat) (v : Value) (l : List (Int × Int)) : Prop := RowZ w 28 5 v l.length (ocells (l.map rOb)) ∧ ∀ k, v.ownBlock = some k → N ≤ k
theorem RgRow.nil (w : World) (N : Nat) : RgRow w N (.slice none 0 0) [] := ⟨RowZ.nil _ _ _, fun k hk => by simp [Value.ownBlock] at hk⟩
theorem RgRow.below {w w' : World} {N : Nat} {v : Value} {l : List (Int × Int)} (h : RgRow w N v l) (hb : Below w.heap.size w w') : RgRow w' N v l := ⟨h.1.below hb (fun k hk => h.1.lt hk), h.2⟩
theorem RgRow.chg {F : List Nat} {w w' : World} {N : Nat} {v : Value} {l : List (Int × Int)} (h : RgRow w N v l) (hc : Chg F w w') (hF : ∀ k, v.ownBlock = some k → k ∉ F) : RgRow w' N v l := ⟨h.1.chg hc hF, h.2⟩
theorem RgRow.form {w : World} {N : Nat} {v : Value} {l : List (Int × Int)} (h : RgRow w N v l) : ∃ ao cap, v = .slice ao l.length cap := by
  obtain ⟨ao, cap, e, _⟩ := h.1.form
  exact ⟨ao, cap, e⟩
/-- The first m of them, as objects. -/
theorem RgRow.ob {w : World} {N n cap : Nat} {ao : Option Addr} {l : List (Int × Int)} (h : RgRow w N (.slice ao n cap) l) (m : Nat) (hm : m ≤ l.length) : ObAt w (.slice ao m cap) ((l.take m).map rOb) := by
  have h1 := h.1
  obtain ⟨ao', cap', e, hle, hmx, hn, hs⟩ := h1.form
  cases e
  have hlen : ((l.take m).map rOb).length = m := by rw [List.length_map, List.length_take]; omega
  refine ⟨ao, cap, by rw [hlen], by rw [hlen]; omega, hmx, fun e => (hn e).2, fun b off s e => ?_, fun j x hj => ?_⟩
  · subst e
    obtain ⟨g, e2, hg, hgb⟩ := hs _ rfl
    cases e2
    exact ⟨rfl, hg⟩
  · have hjl := (List.getElem?_eq_some_iff.1 hj).1
    rw [hlen] at hjl
    have hj2 : (l.map rOb)[j]? = some x := by
      rw [List.map_take, List.getElem?_take_of_lt hjl] at hj
      exact hj
    cases ao with
    | none => have := (hn rfl).1; omega
    | some a =>
      obtain ⟨g, rfl, hg, hgb⟩ := hs a rfl
      have hol := ocells_length (l.map rOb)
      rw [List.length_map] at hol
      have c : ∀ r, r < 5 → w.cell? ⟨g, 0 + j * 5 + r, none⟩ = (ocs x)[r]? := fun r hr => by
        rw [Nat.zero_add, ← ocells_get hj2 hr]
        exact h1.cellAt _ (by rw [hol]; omega)
      exact ⟨g, 0, rfl, c 0 (by omega), c 1 (by omega), c 2 (by omega), c 3 (by omega), c 4 (by omega)⟩
theorem ring_obs (w : World) (P : Nat → Prop) {l : List (Int × Int)} (hw : ∀ p ∈ l, (Lit.int .i64 p.1).wf = true ∧ (Lit.int .i64 p.2).wf = true) : ObsIs w P (l.map rOb) (l.map rObj) := ⟨by simp, fun j x o hx ho => by
  rw [List.getElem?_map, Option.map_eq_some_iff] at hx ho
  obtain ⟨p, hp, rfl⟩ := hx
  obtain ⟨q, hq, rfl⟩ := ho
  rw [hp] at hq
  cases hq
  have := hw p (List.mem_of_getElem? hp)
  exact ⟨rfl, leaf_is w P 5 _ _ (by decide) this.2 (sz_max _ (by decide)), this.1⟩⟩
theorem rt_one (W : World) (b : Nat) (T : TypeId) (x : Int) (h : W.heap[b]? = some (.cells #[.string ⟨#[114]⟩, .string ⟨#[116]⟩, .int .i64 x] T (0, 0))) : RtAt W (.slice (some ⟨b, 0, none⟩) 1 1) [rr x] := by
  refine ⟨some ⟨b, 0, none⟩, 1, rfl, Nat.le_refl _, by unfold maxLen; omega, (fun e => by cases e), (fun b' off s e => by cases e; exact ⟨rfl, lt_of_block h⟩), fun j u hj => ⟨b, 0, rfl, ?_⟩⟩
  rw [Nat.zero_add]
  unfold World.cell?
  rw [h]
  show (#[.string ⟨#[114]⟩, .string ⟨#[116]⟩, .int .i64 x] : Array Value)[j]? = some u
  rw [← Array.getElem?_toList]
  exact hj
theorem infoOg' : (Tryd.prog.info? 28).map (fun i => (i.zero, i.size, i.bytes)) = some (some (.agg #[.int .i64 0, .int .i64 0, .int .i64 0, .string ⟨#[]⟩, .slice none 0 0]), 5, 64) := by kernel_rfl
theorem one_ob (w : World) (p : Int × Int) : RgRow (w.alloc (.cells #[.int .i64 p.1, .int .i64 5, .int .i64 p.2, .string ⟨#[]⟩, .slice none 0 0] 28)) w.heap.size (.slice (some ⟨w.heap.size, 0, none⟩) 1 1) [p] :=
  ⟨⟨rfl, .inr ⟨w.heap.size, 1, #[.int .i64 p.1, .int .i64 5, .int .i64 p.2, .string ⟨#[]⟩, .slice none 0 0], rfl, Nat.zero_le _, World.alloc_heap_new w _, Nat.le_refl _, by unfold maxLen; omega, rfl, rfl⟩⟩, fun k hk => by simp only [Value.ownBlock, Option.some.injEq] at hk; omega⟩
/-- 'append(l, m...)'. -/
theorem wpList_rg {w : World} {ops : Array Oper} {rest : List Oper} {o : Oper} {a : Act} {Q : Exit → Act → World → Prop} (hgd : o.guard = none) (s x : Operand)
    (ho : o.op = .call { callee := .builtin .append, args := #[s, x], argTypes := #[23, 23] }) {N M : Nat} {v xv : Value} {l m : List (Int × Int)} (hs : a.eval s = v) (hr : RgRow w N v l) (hx : a.eval x = xv) (hm : RgRow w M xv m) (h63 : l.length + m.length ≤ 1000000) (hN : N ≤ w.heap.size)
    (h : ∀ ao cap w', RgRow w' N (.slice ao (l.length + m.length) cap) (l ++ m) → Chg v.ownBlock.toList w w' → ((Value.slice ao (l.length + m.length) cap).ownBlock = v.ownBlock ∨ (Value.slice ao (l.length + m.length) cap).ownBlock = some w.heap.size) → wpList Tryd.prog ops Q rest (a.put o.dst (.slice ao (l.length + m.length) cap)) w') : wpList Tryd.prog ops Q (o :: rest) a w := by
  refine wpList_rows (n := l.length) (m := m.length) (news := ocells (m.map rOb)) hgd s x 23 ho Tryd.underlying23 infoOg' rfl (by omega) hs hr.1 hx (Gives.of_row hm.1) (by rw [ocells_length, List.length_map]) (ocells_one _) (by omega) (by omega) ?_
  intro ao cap w' hr' ha
  refine h ao cap w' ⟨?_, fun k hk => ?_⟩ ha.chg ha.2
  · rw [List.map_append, ocells_append, List.length_append]; exact hr'
  · rcases ha.out hk with e | e
    · exact hr.2 k e
    · omega
theorem law_rem (a : Int) (c m lo : Int) (h1 : 0 < m) (h2 : m = lo + 1) (h3 : 0 ≤ c ∧ c ≤ 2000 ∧ m ≤ 1000) : ∃ n : Nat, wrap64 (c + wrap64 ((IntKind.u64.wrap a).tmod m)) = c + (n : Int) ∧ (n : Int) ≤ lo := by
  have hw : 0 ≤ IntKind.u64.wrap a := by show 0 ≤ a % 18446744073709551616; omega
  have e : (IntKind.u64.wrap a).tmod m = IntKind.u64.wrap a % m := Int.tmod_eq_emod_of_nonneg hw
  have b0 := Int.emod_nonneg (IntKind.u64.wrap a) (show m ≠ 0 by omega)
  have b1 := Int.emod_lt_of_pos (IntKind.u64.wrap a) h1
  rw [e]
  generalize IntKind.u64.wrap a % m = x at *
  refine ⟨x.toNat, ?_, by omega⟩
  rw [wrap_id x (by omega) (by omega), wrap_id _ (by omega) (by omega)]
  omega
def RgI (w : World) (n B G gk : Nat) (s7 s8 s9 : Value) (wr : World) : Prop :=
  ∃ i : Nat, s9 = .int .i64 (i : Int) ∧ i + gk = n ∧ RgRow wr w.heap.size s7 (aL n i) ∧ RgRow wr w.heap.size s8 (bL n B G i) ∧ (∀ k, s7.ownBlock = some k → s8.ownBlock ≠ some k) ∧ Below w.heap.size w wr
/-- Both graphs in their boxes, and the row of the first ring. -/
structure RnAt (w W : World) (n p q : Nat) (b1 b2 b3 b4 : Option Addr) (c1 c2 c3 c4 : Nat) (N : Nat) (a7 : Option Addr) (c7 : Nat) : Prop where
  zp : W.heap[p]? = some (.cells #[.slice b1 1 c1, .slice b2 n c2] 31 (0, 0))
  zq : W.heap[q]? = some (.cells #[.slice b3 1 c3, .slice b4 n c4] 31 (0, 0))
  gr : RtAt W (.slice b1 1 c1) (ringG n).roots
  go : VsAt W (.slice b2 n c2) (ringG n).objs
  hr : RtAt W (.slice b3 1 c3) (ringG n).roots
  ho : VsAt W (.slice b4 n c4) (ringG n).objs
  row : RgRow W N (.slice a7 n c7) (aL n n)
  hb : Below w.heap.size w W
section
variable {w W W' : World} {n p q N : Nat} {b1 b2 b3 b4 a7 : Option Addr} {c1 c2 c3 c4 c7 : Nat}
theorem RnAt.below (s : RnAt w W n p q b1 b2 b3 b4 c1 c2 c3 c4 N a7 c7) (hb : Below W.heap.size W W') : RnAt w W' n p q b1 b2 b3 b4 c1 c2 c3 c4 N a7 c7 :=
  ⟨(hb.block _ (lt_of_block s.zp)).trans s.zp, (hb.block _ (lt_of_block s.zq)).trans s.zq, s.gr.below hb, s.go.below hb, s.hr.below hb, s.ho.below hb, s.row.below hb, s.hb.trans (hb.mono s.hb.size)⟩
theorem RnAt.cells (s : RnAt w W n p q b1 b2 b3 b4 c1 c2 c3 c4 N a7 c7) : (W.cell? ⟨p, 0, none⟩ = some (.slice b1 1 c1) ∧ W.cell? ⟨p, 1, none⟩ = some (.slice b2 n c2)) ∧ W.cell? ⟨q, 0, none⟩ = some (.slice b3 1 c3) ∧ W.cell? ⟨q, 1, none⟩ = some (.slice b4 n c4) :=
  ⟨⟨(cells2 s.zp).1, (cells2 s.zp).2.1⟩, (cells2 s.zq).1, (cells2 s.zq).2.1⟩
end
def RnLoop (w : World) (n p q N : Nat) (b1 b2 b3 b4 a7 : Option Addr) (c1 c2 c3 c4 c7 gk : Nat) (s14 : Value) (wx : World) : Prop :=
  ∃ i : Nat, s14 = .int .i64 (i : Int) ∧ i + gk = n ∧ RnAt w wx n p q b1 b2 b3 b4 c1 c2 c3 c4 N a7 c7
set_option maxRecDepth 100000 in
set_option maxHeartbeats 8000000 in
theorem graphRings_walk (a b c : Int) (w : World) (hT : Tab w) : Calls Tryd.prog 3 #[.int .i64 a, .int .i64 b, .int .i64 c] w fun e w' => e = .returned (.bool true) ∧ Below w.heap.size w w' := by
  have HG : Hid (∀ W, Below w.heap.size w W → Calls Tryd.prog 5 #[] W fun e w' => e = .returned (.bool true) ∧ Below W.heap.size W w') := fun W hW => graphs_any W (hT.below hW)
  clear hT
  go_enter Tryd.func3, Tryd.ntmps3
  go_upto_block 0 with (fail)
  obtain ⟨n', hn1, hn2⟩ := law_rem a 1 20 19 (by decide) (by decide) (by decide)
  obtain ⟨B', hb1, hb2⟩ := law_rem b 2 100 99 (by decide) (by decide) (by decide)
  obtain ⟨G', hg1, hg2⟩ := law_rem c 1 50 49 (by decide) (by decide) (by decide)
  obtain ⟨n, hn⟩ : ∃ n : Nat, n = 1 + n' := ⟨_, rfl⟩
  obtain ⟨B, hB⟩ : ∃ n : Nat, n = 2 + B' := ⟨_, rfl⟩
  obtain ⟨G, hG⟩ : ∃ n : Nat, n = 1 + G' := ⟨_, rfl⟩
  rw [hn1, hb1, hg1, show (1 : Int) + (n' : Int) = (n : Int) by omega, show (2 : Int) + (B' : Int) = (B : Int) by omega, show (1 : Int) + (G' : Int) = (G : Int) by omega]
  have n1 : (1 : Int) ≤ (n : Int) := by omega
  have n2 : (n : Int) ≤ 20 := by omega
  have B1 : (2 : Int) ≤ (B : Int) := by omega
  have B2 : (B : Int) ≤ 101 := by omega
  have G1 : (1 : Int) ≤ (G : Int) := by omega
  have G2 : (G : Int) ≤ 50 := by omega
  clear hn1 hb1 hg1 hn2 hb2 hg2 hn hB hG
  go_wp2
  go_loopg [7, 8, 9] n (fun gk s7 s8 s9 wr => RgI w n B G gk s7 s8 s9 wr)
  case atStart => exact ⟨0, rfl, by omega, RgRow.nil _ _, RgRow.nil _ _, (fun k hk => by simp [Value.ownBlock] at hk), Below.refl _ _⟩
  case round =>
    obtain ⟨i, rfl, hi, hra, hrb, hdis, hb⟩ := hrel
    have HI := Lib.hid hi
    have HRA := Lib.hid hra
    have HRB := Lib.hid hrb
    have HD := Lib.hid hdis
    have HB := Lib.hid hb
    obtain ⟨a7, c7, e7⟩ := hra.form
    obtain ⟨a8, c8, e8⟩ := hrb.form
    rw [aL_len] at e7
    rw [bL_len] at e8
    subst e7 e8
    have i0 : (0 : Int) ≤ (i : Int) := by omega
    by_cases hlt : i < n
    · have i1 : (i : Int) < (n : Int) := by omega
      obtain ⟨m, hm⟩ : ∃ m, (i + 1) % n = m := ⟨_, rfl⟩
      have hml : m < n := by rw [← hm]; exact Nat.mod_lt _ (by omega)
      have m1 : (m : Int) < (n : Int) := by omega
      have m0 : (0 : Int) ≤ (m : Int) := by omega
      have q2 : ((i : Int) + 1) % (n : Int) = (m : Int) := by rw [← hm]; exact (Int.natCast_emod (i + 1) n).symm
      have q1 : ((i : Int) + 1).tmod (n : Int) = (m : Int) := by rw [Int.tmod_eq_emod_of_nonneg (by omega)]; exact q2
      have HAN := Lib.hid (aL_next n i)
      have HBN := Lib.hid (bL_next n B G i)
      rw [hm] at HAN HBN
      have p3 : (G : Int) * (i : Int) ≤ 1000 := by
        have : G * i ≤ 50 * 20 := Nat.mul_le_mul (by omega) (by omega)
        have e : ((G * i : Nat) : Int) = (G : Int) * (i : Int) := by simp
        omega
      have p4 : (G : Int) * (m : Int) ≤ 1000 := by
        have : G * m ≤ 50 * 20 := Nat.mul_le_mul (by omega) (by omega)
        have e : ((G * m : Nat) : Int) = (G : Int) * (m : Int) := by simp
        omega
      have p5 : (0 : Int) ≤ (G : Int) * (i : Int) := by have e : ((G * i : Nat) : Int) = (G : Int) * (i : Int) := by simp
                                                        omega
      have p6 : (0 : Int) ≤ (G : Int) * (m : Int) := by have e : ((G * m : Nat) : Int) = (G : Int) * (m : Int) := by simp
                                                        omega
      have HSZ : Hid (w.heap.size ≤ wr.heap.size) := hb.size
      have HIL : Hid (i ≤ 20) := by show _ ≤ _; omega
      have HLT := Lib.hid hlt
      clear hi hra hrb hdis hb hlt hm hml
      go_wp2_with (first
        | (at_builtin; refine wpList_rg (w := wr.alloc (.cells #[.int .i64 ((2 : Int) + (i : Int)), .int .i64 5, .int .i64 ((2 : Int) + (m : Int)), .string ⟨#[]⟩, .slice none 0 0] 28)) (N := w.heap.size) (v := .slice a7 i c7) (l := aL n i) (m := [((2 : Int) + (i : Int), (2 : Int) + (m : Int))]) rfl _ _ rfl rfl (HRA.out.below ((Below.refl _ _).alloc (Nat.le_refl _) _)) rfl (one_ob wr _) (by rw [aL_len]; have := HIL.out; simp; omega) (by have := HSZ.out; simp; omega) ?_; rw [aL_len, List.length_singleton, ← HAN.out]; intro ax cx w7 h7 g7 o7; have H7 := Lib.hid h7; have G7 := Lib.hid g7; have O7 := Lib.hid o7; clear h7 g7 o7)
        | (at_builtin; refine wpList_rg (w := w7.alloc (.cells #[.int .i64 ((B : Int) + (G : Int) * (i : Int)), .int .i64 5, .int .i64 ((B : Int) + (G : Int) * (m : Int)), .string ⟨#[]⟩, .slice none 0 0] 28)) (N := w7.heap.size) (v := .slice (some ⟨w7.heap.size, 0, none⟩) 1 1) (l := [((B : Int) + (G : Int) * (i : Int), (B : Int) + (G : Int) * (m : Int))]) (m := bL n B G i) rfl _ _ rfl rfl (one_ob w7 _) rfl ((HRB.out.below ((Below.refl _ _).alloc (Nat.le_refl _) _)).chg G7.out (fun k hk h => HD.out k (by simpa using h) hk) |>.below ((Below.refl _ _).alloc (Nat.le_refl _) _)) (by rw [bL_len]; have := HIL.out; simp; omega) (by simp) ?_; rw [bL_len, List.length_singleton, ← HBN.out]; intro ay cy w8 h8 g8 o8; have H8 := Lib.hid h8; have G8 := Lib.hid g8; have O8 := Lib.hid o8; clear h8 g8 o8))
      go_roundg (gk - 1)
      case measure => have := HI.out; have := HLT.out; omega
      case rel =>
        have hsz := HSZ.out
        have b1 : Below w.heap.size wr (wr.alloc (.cells #[.int .i64 ((2 : Int) + (i : Int)), .int .i64 5, .int .i64 ((2 : Int) + (m : Int)), .string ⟨#[]⟩, .slice none 0 0] 28)) := (Below.refl _ _).alloc hsz _
        have b2 := b1.trans (G7.out.below (B := w.heap.size) (by simp; omega) (fun k hk => HRA.out.2 k (by simpa using hk)))
        have s7 : w.heap.size ≤ w7.heap.size := Nat.le_trans hsz b2.size
        have b3 := b2.trans ((Below.refl w.heap.size w7).alloc s7 (.cells #[.int .i64 ((B : Int) + (G : Int) * (i : Int)), .int .i64 5, .int .i64 ((B : Int) + (G : Int) * (m : Int)), .string ⟨#[]⟩, .slice none 0 0] 28))
        have b4 := b3.trans (G8.out.below (B := w.heap.size) (by simp; omega) (fun k hk => by simp [Value.ownBlock] at hk; omega))
        have l7 : ∀ k, (Value.slice ax (i + 1) cx).ownBlock = some k → k < w7.heap.size := fun k hk => H7.out.1.lt hk
        refine ⟨i + 1, by go_num, by have := HI.out; have := HLT.out; omega, ?_, ⟨?_, fun k hk => Nat.le_trans s7 (H8.out.2 k hk)⟩, fun k hk hk2 => ?_, HB.out.trans b4⟩
        · exact (H7.out.below ((Below.refl _ _).alloc (Nat.le_refl _) _)).chg G8.out (fun k hk => by have := l7 k hk; simp [Value.ownBlock]; omega)
        · exact H8.out.1
        · have := l7 k hk; have := H8.out.2 k hk2; omega
    · obtain rfl : n = i := by omega
      have i1 : ¬ (n : Int) < (n : Int) := by omega
      clear hi hra hrb hdis hb hlt
      have HWA : Hid (∀ p ∈ aL n n, (Lit.int .i64 p.1).wf = true ∧ (Lit.int .i64 p.2).wf = true) := fun p hp => by
        have := aL_bound (Nat.le_refl n) (by omega) p hp
        exact ⟨WalkArith.wf_i64 (by omega), WalkArith.wf_i64 (by omega)⟩
      have HWB : Hid (∀ p ∈ bL n B G n, (Lit.int .i64 p.1).wf = true ∧ (Lit.int .i64 p.2).wf = true) := fun p hp => by
        have := bL_bound (Nat.le_refl n) (by omega) (show 2 ≤ B by omega) (by omega) (show G ≤ 50 by omega) p hp
        exact ⟨WalkArith.wf_i64 (by omega), WalkArith.wf_i64 (by omega)⟩
      have hrt : ∀ (x : Int) (W W' : World), Below (W.heap.size + 1) (W.alloc (.cells #[.string ⟨#[114]⟩, .string ⟨#[116]⟩, .int .i64 x] 36)) W' → RtAt W' (.slice (some ⟨W.heap.size, 0, none⟩) 1 1) [rr x] := fun x W W' hW => rt_one W' W.heap.size _ x ((hW.block W.heap.size (by omega)).trans (World.alloc_heap_new W _))
      have HRT := Lib.hid hrt
      have hgd : ∀ (x : Int), 1 ≤ x → x ≤ 2000 → ∀ r ∈ [rr x], Gd r := fun x h1 h2 r hr => by
        rw [List.mem_singleton] at hr
        subst hr
        exact ⟨by simp [rr], by simp [rr], show (Lit.int .i64 x).wf = true from WalkArith.wf_i64 (by omega)⟩
      have hsz : ∀ (l : List (Int × Int)), ∀ o ∈ l.map rObj, o.2.sz ≤ 1000 := fun l o ho => by
        obtain ⟨p, hp, rfl⟩ := List.mem_map.1 ho
        simp [rObj, rv, VT.sz, VT.szs]
      have HMA : Hid (∀ W v ao cap N, RtAt W v [rr 2] → RgRow W N (.slice ao n cap) (aL n n) → Calls Tryd.prog 4 #[v, .slice ao n cap] W (MakeEnd W (ringG n, 0))) := fun W v ao cap N h1 h2 => by
        have := make_any W v _ [rr 2] ((aL n n).map rOb) ((aL n n).map rObj) h1 (by simp) (hgd 2 (by omega) (by omega)) (by have := h2.ob n (by rw [aL_len]; omega); rwa [List.take_of_length_le (by rw [aL_len]; omega)] at this) (ring_obs W _ HWA.out) (by rw [List.length_map, aL_len]; omega) (hsz _)
        rwa [make_aL (by omega) (by omega)] at this
      have HMC : Hid (∀ W v ao cap N, RtAt W v [rr 2] → RgRow W N (.slice ao n cap) (aL n n) → Calls Tryd.prog 4 #[v, .slice ao (n - 1) cap] W (MakeEnd W (⟨[], []⟩, 5))) := fun W v ao cap N h1 h2 => by
        have := make_any W v _ [rr 2] (((aL n n).take (n - 1)).map rOb) (((aL n n).take (n - 1)).map rObj) h1 (by simp) (hgd 2 (by omega) (by omega)) (h2.ob (n - 1) (by rw [aL_len]; omega)) (ring_obs W _ fun p hp => HWA.out p (List.mem_of_mem_take hp)) (by rw [List.length_map, List.length_take, aL_len]; omega) (hsz _)
        rwa [make_cut (by omega) (by omega)] at this
      have hgn := gmul (show G ≤ 50 by omega) (show n / 2 ≤ 20 by omega)
      have HMB : Hid (∀ W v ao cap N, RtAt W v [rr ((B : Int) + (G : Int) * ((n / 2 : Nat) : Int))] → RgRow W N (.slice ao n cap) (bL n B G n) → Calls Tryd.prog 4 #[v, .slice ao n cap] W (MakeEnd W (ringG n, 0))) := fun W v ao cap N h1 h2 => by
        have h3 : ObAt W (.slice ao n cap) ((bL n B G n).map rOb) := by
          obtain ⟨ao', cap', e⟩ := h2.form
          rw [bL_len] at e
          have hz := h2.1
          have := (show RgRow W N (.slice ao n cap) (bL n B G n) from h2).ob n (by rw [bL_len]; omega)
          rwa [List.take_of_length_le (by rw [bL_len]; omega)] at this
        have := make_any W v _ [rr ((B : Int) + (G : Int) * ((n / 2 : Nat) : Int))] ((bL n B G n).map rOb) ((bL n B G n).map rObj) h1 (by simp) (hgd _ (by omega) (by omega)) h3 (ring_obs W _ HWB.out) (by rw [List.length_map, bL_len]; omega) (hsz _)
        rwa [make_bL (by omega) (by omega) (by omega) (by omega) (by omega) (by omega)] at this
      have HGN := Lib.hid hgn
      clear hrt hgd hsz HWA HWB hgn
      go_upto_region 9 with (go_at_call 4; refine (HMA.out _ _ _ _ _ (HRT.out 2 _ _ (Below.refl _ _)) (HRA.out.below ((Below.refl _ _).alloc (Nat.le_refl _) _))).mono ?_; rintro e w1 h1; obtain ⟨b1, c1, b2, c2, rfl, j1, j2, hb1⟩ := h1.gis; have J1 := Lib.hid j1; have J2 := Lib.hid j2; have HB1 := Lib.hid hb1; clear h1 j1 j2 hb1)
      have hs0 : w.heap.size ≤ wr.heap.size := HB.out.size
      have B1' : Hid (Below wr.heap.size wr w1) := ((Below.refl _ _).alloc (Nat.le_refl _) _).trans (HB1.out.mono (by simp))
      have HRA1 := Lib.hid (HRA.out.below B1'.out)
      have HRB1 := Lib.hid (HRB.out.below B1'.out)
      obtain ⟨W1, hW1⟩ : ∃ W, W = w1.alloc (.cells #[.slice b1 (ringG n).roots.length c1, .slice b2 (ringG n).objs.length c2] 31) := ⟨_, rfl⟩
      obtain ⟨p, hp⟩ : ∃ p, p = w1.heap.size := ⟨_, rfl⟩
      have hb2 : Below w1.heap.size w1 W1 := by rw [hW1]; exact (Below.refl _ _).alloc (Nat.le_refl _) _
      have ZP : Hid (W1.heap[p]? = some (.cells #[.slice b1 (ringG n).roots.length c1, .slice b2 (ringG n).objs.length c2] 31 (0, 0))) := by show _ = _; rw [hW1, hp]; exact World.alloc_heap_new _ _
      have J3 := Lib.hid (J1.out.below hb2)
      have J4 := Lib.hid (J2.out.below hb2)
      have HRA2 := Lib.hid (HRA1.out.below hb2)
      have HRB2 := Lib.hid (HRB1.out.below hb2)
      have HBW : Hid (Below w.heap.size w W1) := HB.out.trans ((B1'.out.trans (hb2.mono B1'.out.size)).mono hs0)
      rw [← hW1, ← hp]
      clear hW1 hp hb2 J1 J2 HB1 HRA1 HRB1 B1' HRA HRB HB hs0
      obtain ⟨h2, hh2⟩ : ∃ h2 : Nat, n / 2 = h2 := ⟨_, rfl⟩
      have t1 : (n : Int).tdiv 2 = (h2 : Int) := by rw [Int.tdiv_eq_ediv_of_nonneg (by omega)]; omega
      have t2 : (n : Int) / 2 = (h2 : Int) := by omega
      rw [hh2] at HMB HGN
      have g1 := HGN.out.1
      have g2 := HGN.out.2
      clear hh2 HGN
      go_upto_region 10 with (go_at_call 4; refine (HMB.out _ _ _ _ _ (HRT.out _ _ _ (Below.refl _ _)) (HRB2.out.below ((Below.refl _ _).alloc (Nat.le_refl _) _))).mono ?_; rintro e w2 h1; obtain ⟨b3, c3, b4, c4, rfl, j1, j2, hb1⟩ := h1.gis; have J1 := Lib.hid j1; have J2 := Lib.hid j2; have HB1 := Lib.hid hb1; clear h1 j1 j2 hb1)
      obtain ⟨W2, hW2⟩ : ∃ W, W = w2.alloc (.cells #[.slice b3 (ringG n).roots.length c3, .slice b4 (ringG n).objs.length c4] 31) := ⟨_, rfl⟩
      obtain ⟨q, hq⟩ : ∃ p, p = w2.heap.size := ⟨_, rfl⟩
      have hb2 : Below w2.heap.size w2 W2 := by rw [hW2]; exact (Below.refl _ _).alloc (Nat.le_refl _) _
      have hb12 : Below W1.heap.size W1 w2 := ((Below.refl _ _).alloc (Nat.le_refl _) _).trans (HB1.out.mono (by simp))
      have hb13 : Below W1.heap.size W1 W2 := hb12.trans (hb2.mono hb12.size)
      have hll : (ringG n).objs.length = n := by simp [ringG]
      have hlr : (ringG n).roots.length = 1 := rfl
      have SM : Hid (RnAt w W2 n p q b1 b2 b3 b4 c1 c2 c3 c4 w.heap.size a7 c7) := by
        refine ⟨?_, ?_, ?_, ?_, ?_, ?_, HRA2.out.below hb13, HBW.out.trans (hb13.mono HBW.out.size)⟩
        · have := (hb13.block _ (lt_of_block ZP.out)).trans ZP.out; rwa [hll, hlr] at this
        · have : W2.heap[q]? = some (.cells #[.slice b3 (ringG n).roots.length c3, .slice b4 (ringG n).objs.length c4] 31 (0, 0)) := by rw [hW2, hq]; exact World.alloc_heap_new _ _
          rwa [hll, hlr] at this
        · exact J3.out.below hb13
        · have := J4.out.below hb13; rwa [hll] at this
        · exact J1.out.below hb2
        · have := J2.out.below hb2; rwa [hll] at this
      rw [← hW2, ← hq, hll, hlr]
      clear hW2 hq hb2 hb12 hb13 hll hlr J1 J2 J3 J4 HB1 ZP HRA2 HRB2 HBW HMA HMB t1 t2 g1 g2
      have HGS : Hid (∀ W, RnAt w W n p q b1 b2 b3 b4 c1 c2 c3 c4 w.heap.size a7 c7 → Calls Tryd.prog 5 #[] W fun e w' => e = .returned (.bool true) ∧ RnAt w w' n p q b1 b2 b3 b4 c1 c2 c3 c4 w.heap.size a7 c7) := fun W s => (HG.out W s.hb).mono fun e w' k => ⟨k.1, s.below k.2⟩
      have HSA : Hid (∀ W, RnAt w W n p q b1 b2 b3 b4 c1 c2 c3 c4 w.heap.size a7 c7 → Calls Tryd.prog 6 #[.agg #[.slice b1 1 c1, .slice b2 n c2], .agg #[.slice b3 1 c3, .slice b4 n c4]] W fun e w' => e = .returned (.bool true) ∧ RnAt w w' n p q b1 b2 b3 b4 c1 c2 c3 c4 w.heap.size a7 c7) := fun W s =>
        (graphSame_any W _ _ _ _ (ringG n) (ringG n) s.gr s.go s.hr s.ho (by simp [ringG]) (by simp [ringG])).mono fun e w' k => ⟨k.1.trans (by unfold graphSame; simp [VT.sames_refl]), s.below k.2⟩
      clear HG
      go_upto_block 2 with (first
        | (go_at_call 5; refine (HGS.out _ SM.out).mono ?_; clear HGS; rintro e w3 ⟨rfl, s3⟩; have S3 := Lib.hid s3; obtain ⟨⟨x0, x1⟩, y0, y1⟩ := s3.cells; clear s3)
        | (go_at_call 6; refine (HSA.out _ S3.out).mono ?_; clear HSA; rintro e w4 ⟨rfl, s4⟩; have S4 := Lib.hid s4; clear x0 x1 y0 y1; obtain ⟨⟨x0, x1⟩, y0, y1⟩ := s4.cells; clear s4))
      clear x0 x1 y0 y1 S3 SM
      go_wp2
      go_loopg [14] n (fun gk s14 wx => RnLoop w n p q w.heap.size b1 b2 b3 b4 a7 c1 c2 c3 c4 c7 gk s14 wx)
      case atStart => exact ⟨0, rfl, by omega, S4.out⟩
      case round =>
        rename World => wx
        obtain ⟨i, rfl, hi, hs⟩ := hrel
        have HI := Lib.hid hi
        have HS := Lib.hid hs
        have i0 : (0 : Int) ≤ (i : Int) := by omega
        by_cases hlt : i < n
        · have i1' : (i : Int) < (n : Int) := by omega
          obtain ⟨m, hm⟩ : ∃ m, (i + 1) % n = m := ⟨_, rfl⟩
          have hml : m < n := by rw [← hm]; exact Nat.mod_lt _ (by omega)
          have m1 : (m : Int) < (n : Int) := by omega
          have m0 : (0 : Int) ≤ (m : Int) := by omega
          have q2 : ((i : Int) + 1) % (n : Int) = (m : Int) := by rw [← hm]; exact (Int.natCast_emod (i + 1) n).symm
          have q1 : ((i : Int) + 1).tmod (n : Int) = (m : Int) := by rw [Int.tmod_eq_emod_of_nonneg (by omega)]; exact q2
          have q3 : IntKind.i64.wrap ((i : Int) + 1) = (i : Int) + 1 := by rw [IntKind.wrap_i64]; omega
          have q4 : IntKind.i64.wrap ((1 : Int) + (m : Int)) = (1 : Int) + (m : Int) := by rw [IntKind.wrap_i64]; omega
          have hot : (ringG n).objs[i]? = some (rv ((((i + 1) % n + 1 : Nat)) : Int)) := by
            unfold ringG
            rw [List.getElem?_map, List.getElem?_range hlt]
            rfl
          rw [hm] at hot
          obtain ⟨bo, co, e, _, _, _, hk⟩ := hs.go
          injection e with e1 e0 e2
          clear e0
          subst e1 e2
          obtain ⟨b, off, _, _, _, _, rfl, _⟩ := hk.get hot
          obtain ⟨_, _, _, d0, d1, d2, d3, _⟩ := hk.cells hot
          rw [Nat.zero_add] at d1
          have d1' : wx.cell? ⟨b, off + i * 4 + 1, none⟩ = some (.int .i64 ((1 : Int) + (m : Int))) := by
            rw [d1]
            have e9 : (rv ((m + 1 : Nat) : Int)).num = (1 : Int) + (m : Int) := by show ((m + 1 : Nat) : Int) = _; omega
            rw [e9]
          obtain ⟨⟨x0, x1⟩, _⟩ := hs.cells
          have HLT := Lib.hid hlt
          clear hi hs hlt hm hml hot hk d0 d1 d2 d3
          go_wp2
          go_quiet (fail)
          go_wp2
          go_roundg (gk - 1)
          case measure => have := HI.out; have := HLT.out; omega
          case rel => exact ⟨i + 1, by go_num, by have := HI.out; have := HLT.out; omega, HS.out.below (below_drewN (Below.refl _ _) _)⟩
        · have i1' : ¬ (i : Int) < (n : Int) := by omega
          clear hi hs hlt
          have n6 : ((n : Int) - 1).toNat = n - 1 := by omega
          have n7 : (n : Int) - 1 ≤ (c7 : Int) := by
            obtain ⟨_, _, e, h, _⟩ := HS.out.row.1.form
            injection e with e1 e0 e2
            rw [aL_len] at h
            omega
          go_wp2_with (go_at_call 4; refine (HMC.out _ _ _ _ _ (HRT.out 2 _ _ (Below.refl _ _)) (HS.out.row.below ((Below.refl _ _).alloc (Nat.le_refl _) _))).mono ?_; rintro e w5 h1; obtain ⟨b5, c5, b6, c6, rfl, _, _, hb1⟩ := h1.gis; have HB1 := Lib.hid (HS.out.hb.trans (((Below.refl _ _).alloc (Nat.le_refl _) _).trans (hb1.mono (by simp)) |>.mono HS.out.hb.size)); clear h1 hb1)
          go_ret
          exact ⟨rfl, HB1.out⟩
end Go.Proofs.YtenikoecnfbfoaaDoor
