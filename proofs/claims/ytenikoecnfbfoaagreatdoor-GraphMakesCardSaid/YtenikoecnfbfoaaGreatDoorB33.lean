/- Texts of the proof, in build order: GrMake, GrText, GrGraphP, GrTextR, GrSame, GrGraphs, GrFewX, GrFrom, GrSameR. -/
import Derived.Test.YtenikoecnfbfoaaGreatDoorB27
import Derived.Test.YtenikoecnfbfoaaGreatDoorB32
import Derived.Test.YtenikoecnfbfoaaGreatDoorB06
import Derived.Test.YtenikoecnfbfoaaGreatDoorB28
import Derived.Sort.CutIn
import Derived.Test.YtenikoecnfbfoaaGreatDoorB26
import Derived.Test.YtenikoecnfbfoaaGreatDoorB20
import Derived.Test.YtenikoecnfbfoaaGreatDoorB23
import Derived.Shelf.SlicesQ.Equal
import Derived.Test.YtenikoecnfbfoaaGreatDoorB22
import Derived.Deep.MidRow
import Derived.Test.YtenikoecnfbfoaaGreatDoorB29
/- Layer 8: the program's Make. -/
namespace Go.Proofs.YtenikoecnfbfoaaGreatDoor
open Go.RowKit Go.Shelf Go.Maps
set_option linter.unusedVariables false
set_option linter.unusedSimpArgs false
attribute [local go_sem] Oper.semAt_some
open Gr (RT GT dirT sortO makeT meetT bfs findO numOf pairs)

/-- A slice that reads as values. -/
def VsAt (w : World) (v : Value) (l : List VT) : Prop := ∃ ao cap, v = .slice ao l.length cap ∧ l.length ≤ cap ∧ cap ≤ maxLen ∧ (ao = none → cap = 0) ∧ KidsAt w (fun b => b < w.heap.size) l ao 0
theorem VsAt.nil (w : World) : VsAt w (.slice none 0 0) [] := ⟨none, 0, rfl, Nat.le_refl _, by unfold maxLen; omega, fun _ => rfl, by unfold KidsAt; trivial⟩
theorem rtAt_nil (w : World) : RtAt w (.slice none 0 0) [] := (RtRow.nil 82 w 0).at_
/-- Make, ended. -/
def MakeEnd (w : World) (r : GT × Int) (e : Ending) (w' : World) : Prop :=
  ∃ vr vo, e = .returned (.tuple #[.agg #[vr, vo], .int .i64 r.2]) ∧ RtAt w' vr r.1.roots ∧ VsAt w' vo r.1.objs ∧ Below w.heap.size w w'
theorem cells2 {w : World} {b : Nat} {x0 x1 : Value} {T : TypeId} (h : w.heap[b]? = some (.cells #[x0, x1] T (0, 0))) : w.cell? ⟨b, 0, none⟩ = some x0 ∧ w.cell? ⟨b, 1, none⟩ = some x1 ∧ (∀ j, w.frozen? ⟨b, j, none⟩ = false) :=
  ⟨by simp [World.cell?, h], by simp [World.cell?, h], fun j => by simp [World.frozen?, h]⟩
theorem cells1 {w : World} {b : Nat} {x0 : Value} {T : TypeId} (h : w.heap[b]? = some (.cells #[x0] T (0, 0))) : w.cell? ⟨b, 0, none⟩ = some x0 ∧ (∀ j, w.frozen? ⟨b, j, none⟩ = false) :=
  ⟨by simp [World.cell?, h], fun j => by simp [World.frozen?, h]⟩
theorem two_new (w w2 : World) (A B : Array Value) (T U : TypeId) (hb : Below ((w.alloc (.cells A T)).alloc (.cells B U)).heap.size ((w.alloc (.cells A T)).alloc (.cells B U)) w2) : w2.heap[w.heap.size]? = some (.cells A T (0, 0)) ∧ w2.heap[w.heap.size + 1]? = some (.cells B U (0, 0)) ∧ Below w.heap.size w w2 ∧ w.heap.size + 2 ≤ w2.heap.size := by
  have h2 := World.alloc_heap_new (w.alloc (.cells A T)) (.cells B U)
  rw [World.size_alloc] at h2
  have h1 := (Below.heap_alloc (w.alloc (.cells A T)) (.cells B U) w.heap.size (by simp)).trans (World.alloc_heap_new w (.cells A T))
  have hs := hb.size
  simp only [World.size_alloc] at hs
  exact ⟨(hb.block _ (by simp; omega)).trans h1, (hb.block _ (by simp)).trans h2, (((Below.refl _ _).alloc (Nat.le_refl _) _).alloc (by simp) _).trans (hb.mono (by simp; omega)), by omega⟩
structure MkI (w : World) (b0 : Nat) (vo : Value) {obs : List OB} (objs : List (Int × VT)) (pre : List (PO obs)) (W : World) : Prop where
  bH : W.heap[w.heap.size]? = some (.cells #[.slice none 0 0, .slice none 0 0] 31 (0, 0))
  bE : W.heap[w.heap.size + 1]? = some (.cells #[.int .i64 0] 32 (0, 0))
  bW : W.heap[b0 + 1 + 1 + 1]? = some (.cells #[.map (some (b0 + 1)), .map (some (b0 + 1 + 1)), .slice none 0 0, .slice none 0 0] 75 (0, 0))
  bP : W.heap[b0 + 1 + 1 + 1 + 1]? = some (.cells #[.pointer (some ⟨b0 + 1 + 1 + 1, 0, none⟩)] 69 (0, 0))
  bS : W.heap[b0 + 1 + 1 + 1 + 1 + 1]? = some (.cells #[vo] 26 (0, 0))
  va : VMap Tryz.prog 3 W (b0 + 1) pre.length (allM pre)
  nm : NMap Tryz.prog 3 3 W (b0 + 1 + 1) 0 (fun _ => none)
  ok : ∀ x ∈ pre, ∀ o, objs[x.1.1]? = some o → encErr o.2 = 0
  bl : Below w.heap.size w W
  sz : w.heap.size + 2 ≤ b0
mutual
theorem valIs_inj {w : World} {P Q : Nat → Prop} : ∀ (t t' : VT) (v : Value), ValIs w P t v → ValIs w Q t' v → t = t'
  | .node k n s l, .node k' n' s' l', v, h, h' => by
    unfold ValIs at h h'
    obtain ⟨ao, cap, rfl, _, _, _, _, _, _, hk⟩ := h
    obtain ⟨ao', cap', e, _, _, _, _, _, _, hk'⟩ := h'
    have e := congrArg (fun v => match v with | Value.agg a => a.toList | _ => []) e
    simp only [List.cons.injEq, Value.int.injEq, Value.string.injEq, Value.slice.injEq, true_and, and_true] at e
    obtain ⟨rfl, rfl, rfl, rfl, hl, rfl⟩ := e
    rw [kids_inj l l' ao 0 hl hk hk']
theorem kids_inj {w : World} {P Q : Nat → Prop} : ∀ (l l' : List VT) (ao : Option Addr) (j : Nat), l.length = l'.length → KidsAt w P l ao j → KidsAt w Q l' ao j → l = l'
  | [], [], _, _, _, _, _ => rfl
  | [], _ :: _, _, _, h, _, _ => by cases h
  | _ :: _, [], _, _, h, _, _ => by cases h
  | t :: l, t' :: l', ao, j, hl, h, h' => by
    unfold KidsAt at h h'
    obtain ⟨⟨b, off, x0, x1, x2, x3, rfl, _, c0, c1, c2, c3, hv⟩, hr⟩ := h
    obtain ⟨⟨b', off', y0, y1, y2, y3, e, _, d0, d1, d2, d3, hv'⟩, hr'⟩ := h'
    cases e
    rw [c0] at d0
    rw [c1] at d1
    rw [c2] at d2
    rw [c3] at d3
    cases d0
    cases d1
    cases d2
    cases d3
    rw [valIs_inj t t' _ hv hv', kids_inj l l' _ (j + 1) (by simpa using hl) hr hr']
end
theorem MkI.chg {w W W' : World} {b0 : Nat} {vo : Value} {obs : List OB} {objs : List (Int × VT)} {pre : List (PO obs)} {F : List Nat} (h : MkI w b0 vo objs pre W) (hc : Chg F W W') (hF : ∀ k ∈ F, b0 + 1 + 1 + 1 + 1 + 1 < k) : MkI w b0 vo objs pre W' := by
  have hn : ∀ k, k ≤ b0 + 1 + 1 + 1 + 1 + 1 → k ∉ F := fun k hk hm => by have := hF k hm; omega
  have hs := h.sz
  exact ⟨(hc.block _ (lt_of_block h.bH) (hn _ (by omega))).trans h.bH, (hc.block _ (lt_of_block h.bE) (hn _ (by omega))).trans h.bE, (hc.block _ (lt_of_block h.bW) (hn _ (by omega))).trans h.bW, (hc.block _ (lt_of_block h.bP) (hn _ (by omega))).trans h.bP, (hc.block _ (lt_of_block h.bS) (hn _ (by omega))).trans h.bS,
    h.va.chg hc (hn _ (by omega)), h.nm.chg hc (hn _ (by omega)), h.ok, h.bl.trans (hc.below (by have := lt_of_block h.bH; omega) (fun k hk => by have := hF k hk; omega)), hs⟩
theorem MkI.start (w w2 : World) (vo : Value) (obs : List OB) (objs : List (Int × VT)) (A : Array Value) (zH : w2.heap[w.heap.size]? = some (.cells #[.slice none 0 0, .slice none 0 0] 31 (0, 0))) (zE : w2.heap[w.heap.size + 1]? = some (.cells #[.int .i64 0] 32 (0, 0))) (hb : Below w.heap.size w w2) (hs : w.heap.size + 2 ≤ w2.heap.size) :
    MkI w w2.heap.size vo objs ([] : List (PO obs)) ((((((w2.alloc (.cells A 47)).alloc (.map #[] 0)).alloc (.map #[] 0)).alloc (.cells #[.map (some (w2.heap.size + 1)), .map (some (w2.heap.size + 1 + 1)), .slice none 0 0, .slice none 0 0] 75)).alloc (.cells #[.pointer (some ⟨w2.heap.size + 1 + 1 + 1, 0, none⟩)] 69)).alloc (.cells #[vo] 26)) := by
  have a1 : ∀ (X : World) (o : Obj) (k : Nat) (b : Obj), X.heap[k]? = some b → (X.alloc o).heap[k]? = some b := fun X o k b h => (Below.heap_alloc X o k (Array.getElem?_eq_some_iff.1 h).1).trans h
  have n1 := World.alloc_heap_new
  have va : VMap Tryz.prog 3 ((w2.alloc (.cells A 47)).alloc (.map #[] 0)) (w2.heap.size + 1) 0 (fun _ => none) := by
    have := VMap.made (P := Tryz.prog) (K := 3) (w2.alloc (.cells A 47))
    rw [World.size_alloc] at this
    exact this
  have nm : NMap Tryz.prog 3 3 (((w2.alloc (.cells A 47)).alloc (.map #[] 0)).alloc (.map #[] 0)) (w2.heap.size + 1 + 1) 0 (fun _ => none) := by
    have := NMap.made (P := Tryz.prog) (K := 3) (E := 3) ((w2.alloc (.cells A 47)).alloc (.map #[] 0))
    rw [World.size_alloc, World.size_alloc] at this
    exact this
  have e3 := n1 (((w2.alloc (.cells A 47)).alloc (.map #[] 0)).alloc (.map #[] 0)) (.cells #[.map (some (w2.heap.size + 1)), .map (some (w2.heap.size + 1 + 1)), .slice none 0 0, .slice none 0 0] 75)
  have e4 := n1 ((((w2.alloc (.cells A 47)).alloc (.map #[] 0)).alloc (.map #[] 0)).alloc (.cells #[.map (some (w2.heap.size + 1)), .map (some (w2.heap.size + 1 + 1)), .slice none 0 0, .slice none 0 0] 75)) (.cells #[.pointer (some ⟨w2.heap.size + 1 + 1 + 1, 0, none⟩)] 69)
  have e5 := n1 (((((w2.alloc (.cells A 47)).alloc (.map #[] 0)).alloc (.map #[] 0)).alloc (.cells #[.map (some (w2.heap.size + 1)), .map (some (w2.heap.size + 1 + 1)), .slice none 0 0, .slice none 0 0] 75)).alloc (.cells #[.pointer (some ⟨w2.heap.size + 1 + 1 + 1, 0, none⟩)] 69)) (.cells #[vo] 26)
  simp only [World.size_alloc] at e3 e4 e5
  exact ⟨a1 _ _ _ _ (a1 _ _ _ _ (a1 _ _ _ _ (a1 _ _ _ _ (a1 _ _ _ _ (a1 _ _ _ _ zH))))), a1 _ _ _ _ (a1 _ _ _ _ (a1 _ _ _ _ (a1 _ _ _ _ (a1 _ _ _ _ (a1 _ _ _ _ zE))))), a1 _ _ _ _ (a1 _ _ _ _ e3), a1 _ _ _ _ e4, e5,
    va.chg ((((Chg.refl [] _).alloc _).alloc _).alloc _ |>.alloc _) (by simp), nm.chg (((Chg.refl [] _).alloc _).alloc _ |>.alloc _) (by simp), (fun x hx => by cases hx),
    hb.trans ((((((((Chg.refl [] w2).alloc _).alloc _).alloc _).alloc _).alloc _).alloc _).below hb.size (by simp)), hs⟩
def MkX (w : World) (objs : List (Int × VT)) (c : Code) (W : World) : Prop :=
  c = .ret ∧ W.heap[w.heap.size]? = some (.cells #[.slice none 0 0, .slice none 0 0] 31 (0, 0)) ∧ W.heap[w.heap.size + 1]? = some (.cells #[.int .i64 2] 32 (0, 0)) ∧ (∃ o ∈ objs, encErr o.2 ≠ 0) ∧ Below w.heap.size w W
theorem MkX.own {w A B : World} {objs : List (Int × VT)} {c : Code} {row : Option Nat} (h : MkX w objs c A) (hg : A.grownBy B row) (hr : ∀ r, row = some r → w.heap.size + 2 ≤ r) : MkX w objs c B := by
  obtain ⟨h1, h2, h3, h4, h5⟩ := h
  have hc : Chg row.toList A B := (Chg.refl _ A).grown hg (fun k hk => .inl (by simp [hk]))
  have hn : ∀ k ∈ row.toList, w.heap.size + 2 ≤ k := fun k hk => hr k (by simpa using hk)
  exact ⟨h1, (hc.block _ (lt_of_block h2) (fun hm => by have := hn _ hm; omega)).trans h2, (hc.block _ (lt_of_block h3) (fun hm => by have := hn _ hm; omega)).trans h3, h4, h5.trans (hc.below (Nat.le_of_lt (lt_of_block h2)) (fun k hk => by have := hn k hk; omega))⟩
set_option maxRecDepth 100000 in
set_option maxHeartbeats 8000000 in
theorem make_dir (w : World) (vr vo : Value) (roots : List RT) (objs : List (Int × VT)) (hr : RtAt w vr roots) (hl : roots.length ≤ 1000000) (hgd : ∀ r ∈ roots, Gd r) (er : Int) (her : (dirT roots).2 = er) (h0 : er ≠ 0) :
    Calls Tryz.prog 8 #[vr, vo] w (MakeEnd w (makeT roots objs)) := by
  have hmk : makeT roots objs = (⟨[], []⟩, er) := by unfold makeT; rw [her, if_pos h0]
  rw [hmk]
  have HD := Lib.hid (fun W (hW : Below w.heap.size w W) => dir_any W vr roots (hr.below hW) hl hgd)
  have HER := Lib.hid her
  have k1 : (er == 0) = false := by simpa using h0
  have k2 : (er != 0) = true := by simpa using h0
  clear hmk her h0 hr hgd
  go_enter Tryz.func8, Tryz.ntmps8
  go_wp2_with (go_at_call 19; refine (HD.out _ (((Below.refl _ _).alloc (Nat.le_refl _) _).alloc (by simp) _)).mono ?_; rintro e w2 ⟨vd, rfl, hvd, hb2⟩; obtain ⟨ad, cd, rfl⟩ := hvd.form; rw [HER.out]; have HB2 := Lib.hid hb2; obtain ⟨zH, zE, hbw, hs2⟩ := two_new _ _ _ _ _ _ hb2; have ZH := Lib.hid zH; have ZE := Lib.hid zE; have HBW := Lib.hid hbw; have k3 := (fun o : Obj => cells2 ((Below.heap_alloc w2 o _ (lt_of_block zH)).trans zH)); have k4 := (fun o : Obj => cells1 ((Below.heap_alloc w2 o _ (lt_of_block zE)).trans zE)); clear hvd hb2 zH zE hbw; unfold vval)
  obtain ⟨r1, r2, r3⟩ := res_set (a' := .slice none 0 0) (b' := .slice none 0 0) (c' := .int .i64 er) ((Below.heap_alloc w2 (.cells #[.int .i64 (dirT roots).1.kind, .int .i64 (dirT roots).1.num, .string (dirT roots).1.text, .slice ad (dirT roots).1.kids.length cd] 47) _ (lt_of_block ZH.out)).trans ZH.out) ((Below.heap_alloc w2 _ _ (lt_of_block ZE.out)).trans ZE.out)
  obtain ⟨y0, y1, _⟩ := cells2 r1
  obtain ⟨y2, _⟩ := cells1 r2
  refine bodyPost_ret (v := .tuple #[.agg #[.slice none 0 0, .slice none 0 0], .int .i64 er]) (by simp [results, Tryz.results8, go_sem, y0, y1, y2]) rfl ?_
  exact ⟨_, _, rfl, rtAt_nil _, VsAt.nil _, (HBW.out.alloc HBW.out.size _).trans (r3.below (by have := HBW.out.size; simp; omega) (by simp))⟩
set_option maxRecDepth 100000 in
set_option maxHeartbeats 8000000 in
theorem make_rest (w : World) (vr vo : Value) (roots s : List RT) (obs : List OB) (objs : List (Int × VT)) (hr : RtAt w vr roots) (hl : roots.length ≤ 1000000) (hgd : ∀ r ∈ roots, Gd r) (h0 : (dirT roots).2 = 0) (hs : sortO roots [] = some s) (hsl : s.length ≤ 100)
    (ho : ObAt w vo obs) (hoi : ObsIs w (fun b => b < w.heap.size) obs objs) (hol : objs.length ≤ 100) (hsz : ∀ o ∈ objs, o.2.sz ≤ 1000) :
    Calls Tryz.prog 8 #[vr, vo] w (MakeEnd w (makeT roots objs)) := by
  have HD := Lib.hid (fun W (hW : Below w.heap.size w W) => dir_any W vr roots (hr.below hW) hl hgd)
  have HSO := Lib.hid (fun W (hW : Below w.heap.size w W) => sorted_any W vr roots (hr.below hW) hl (gd_sizes hgd))
  have HER := Lib.hid h0
  have HS := Lib.hid hs
  have HSL := Lib.hid hsl
  have HO := Lib.hid ho
  have HOI := Lib.hid hoi
  have HOL := Lib.hid hol
  have HSZ := Lib.hid hsz
  have HGW : Hid (∀ r ∈ s, (Lit.int .i64 r.id).wf = true) := fun r hr => by have h := (Gr.sortO_some .nil hs).2.1.mem_iff.1 hr; rw [List.append_nil] at h; exact (hgd r h).2.2
  obtain ⟨ao, co, rfl, _⟩ := ho
  have hmm := @run_makeMap Tryz.prog
  clear h0 hs hsl hoi hol hsz hr hl hgd
  refine (callsIn_wide (n := 6)).1 ?_
  refine callsIn_of_wp_marks Tryz.func8 rfl trivial ?_ rfl
  simp only [Tryz.ntmps8, List.size_toArray, List.length_cons, List.length_nil, Nat.reduceAdd, Nat.reduceSub, Array.replicate_succ, Array.replicate_zero, List.push_toArray, List.append_toArray, List.nil_append, List.cons_append]
  gi_wp2_with (first
    | (refine ⟨trivial, ?_⟩; gi_at_call 19; refine (callsIn_wide.2 (HD.out _ (((Below.refl _ _).alloc (Nat.le_refl _) _).alloc (by simp) _))).mono ?_; rintro e w2 ⟨vd, rfl, hvd, hb2⟩; obtain ⟨ad, cd, rfl⟩ := hvd.form; rw [HER.out]; obtain ⟨zH, zE, hbw, hs2⟩ := two_new _ _ _ _ _ _ hb2; have ZH := Lib.hid zH; have ZE := Lib.hid zE; have HBW := Lib.hid hbw; have HS2 := Lib.hid hs2; clear hvd hb2 zH zE hbw hs2; unfold vval)
    | (refine ⟨trivial, ?_⟩; gi_at_call 24; refine (backwardO_in Fence.wide _ trivial rfl _ _ _ _).mono ?_; rintro e w' ⟨rfl, rfl⟩))
  generalize (dirT roots).1.kind = dk at *
  generalize (dirT roots).1.num = dn at *
  generalize (dirT roots).1.text = dt at *
  generalize (dirT roots).1.kids.length = dl at *
  have h0 := MkI.start w w2 (.slice ao obs.length co) obs objs #[.int .i64 dk, .int .i64 dn, .string dt, .slice ad dl cd] ZH.out ZE.out HBW.out HS2.out
  have hsz0 : ((((((w2.alloc (.cells #[.int .i64 dk, .int .i64 dn, .string dt, .slice ad dl cd] 47)).alloc (.map #[] 0)).alloc (.map #[] 0)).alloc (.cells #[.map (some (w2.heap.size + 1)), .map (some (w2.heap.size + 1 + 1)), .slice none 0 0, .slice none 0 0] 75)).alloc (.cells #[.pointer (some ⟨w2.heap.size + 1 + 1 + 1, 0, none⟩)] 69)).alloc (.cells #[.slice ao obs.length co] 26)).heap.size = w2.heap.size + 1 + 1 + 1 + 1 + 1 + 1 := by simp
  generalize ((((((w2.alloc (.cells #[.int .i64 dk, .int .i64 dn, .string dt, .slice ad dl cd] 47)).alloc (.map #[] 0)).alloc (.map #[] 0)).alloc (.cells #[.map (some (w2.heap.size + 1)), .map (some (w2.heap.size + 1 + 1)), .slice none 0 0, .slice none 0 0] 75)).alloc (.cells #[.pointer (some ⟨w2.heap.size + 1 + 1 + 1, 0, none⟩)] 69)).alloc (.cells #[.slice ao obs.length co] 26)) = W0 at h0 hsz0 ⊢
  have H0 := Lib.hid h0
  have HS0 := Lib.hid hsz0
  have hob0 := HO.out.below h0.bl
  have hoin : ∀ a n c, Value.slice ao obs.length co = .slice (some a) n c → a.block < w.heap.size := fun a n c e => by
    obtain ⟨ao', cap', e', _, _, _, h5, _⟩ := HO.out
    cases e'
    cases e
    exact (h5 _ _ _ rfl).2
  have hol2 : obs.length ≤ 1000000 := by have := HOI.out.1; have := HOL.out; omega
  refine wpIn_rangeFunc_ownH rfl (by omega) (gf := 44) (lb := #[.pointer (some ⟨w2.heap.size + 1 + 1 + 1 + 1 + 1, 0, none⟩)]) rfl trivial (enters_of Tryz.func44 (by kernel_rfl) rfl)
    (backO_stops Fence.wide _ trivial rfl (by omega) (w2.heap.size + 1 + 1 + 1 + 1 + 1) w.heap.size (.slice ao obs.length co) obs hol2 W0 (by omega) (by have := HS2.out; omega) (by have := h0.bS; simp [World.cell?, this]) hob0 hoin) kpB_t (kpB_b (by have := HS2.out; omega) (by omega)) (Below.refl _ _) (fun _ => rfl)
    (fun pre W => MkI w w2.heap.size (.slice ao obs.length co) objs pre W)
    (fun c _ W => MkX w objs c W)
    (fun pre A B row hs hg hr => hs.chg (F := row.toList) ((Chg.refl _ A).grown hg (fun k hk => .inl (by simp [hk]))) (fun k hk => by have := (hr k (by simpa using hk)).1; omega))
    (fun c pre A B row hs hg hr => hs.own hg (fun r e => by have := (hr r e).1; have := HS2.out; omega))
    h0
    (fun x a' W => ∃ Bx, W0.heap.size ≤ Bx ∧ W.heap[Bx]? = some (.cells #[.int .i64 x.1.2.id, .int .i64 x.1.2.k, .int .i64 x.1.2.n, .string x.1.2.s, .slice x.1.2.ao x.1.2.len x.1.2.cap] 49 (0, 0)) ∧ a' = { tmps := #[vr, .slice ao obs.length co, undef, undef, .pointer (some ⟨w.heap.size, 0, none⟩), .pointer (some ⟨w.heap.size + 1, 0, none⟩), .pointer (some ⟨w2.heap.size, 0, none⟩), .int .i64 0, .pointer (some ⟨w2.heap.size + 1 + 1 + 1 + 1, 0, none⟩), undef, .pointer (some ⟨Bx, 0, none⟩), undef, undef, undef, undef, undef, undef, undef, undef, undef, undef, undef, undef, undef, .tuple #[.agg #[.int .i64 dk, .int .i64 dn, .string dt, .slice ad dl cd], .int .i64 0], vr, .tuple #[.agg #[.int .i64 dk, .int .i64 dn, .string dt, .slice ad dl cd], .int .i64 0], .agg #[.int .i64 dk, .int .i64 dn, .string dt, .slice ad dl cd], .int .i64 0, .int .i64 0, .bool false, undef, undef, .map (some (w2.heap.size + 1)), .map (some (w2.heap.size + 1 + 1)), .agg #[.map (some (w2.heap.size + 1)), .map (some (w2.heap.size + 1 + 1)), .slice none 0 0, .slice none 0 0], .pointer (some ⟨w2.heap.size + 1 + 1 + 1, 0, none⟩), .slice ao obs.length co, .func (.func 44) #[] #[.pointer (some ⟨w2.heap.size + 1 + 1 + 1 + 1 + 1, 0, none⟩)], .int .i64 (x.1.1 : Int), .agg #[.int .i64 x.1.2.id, .int .i64 x.1.2.k, .int .i64 x.1.2.n, .string x.1.2.s, .slice x.1.2.ao x.1.2.len x.1.2.cap], undef, undef, undef, undef, undef, undef, undef, undef, undef, undef, undef, undef, undef, undef, undef, undef, undef, undef, undef, undef, undef, undef, undef, undef, undef, undef, undef, undef, undef, undef, undef, undef, undef, undef, undef, undef, undef, undef, undef, undef, undef, undef, undef, undef, undef, undef, undef, undef, undef, undef, undef, undef, undef, undef, undef, undef, undef, undef, undef, undef, undef, undef, undef, undef, undef, undef, undef, undef, undef, undef, undef, undef, undef, undef, undef, undef, undef, undef, undef, undef, undef, undef, undef, undef, undef, undef, undef, undef, undef, undef, undef, undef, undef, undef, undef, undef, undef, undef, undef, undef, undef, undef, undef, undef, undef, undef, undef, undef, undef], defers := [] })
    (fun x a' _ X Y row hs hg hr => by obtain ⟨Bx, h1, h2, h3⟩ := hs; exact ⟨Bx, h1, (hg.block Bx (lt_of_block h2) (fun e => by obtain ⟨_, o, ho, hc⟩ := hr _ e.symm; rw [h2] at ho; cases ho; cases hc)).trans h2, h3⟩)
    ?assign ?body ?done ?stop
  case assign =>
    rintro l pre x W K hI hK
    dsimp only [encO]
    have hW : W0.heap.size ≤ W.heap.size := by have := lt_of_block hI.bS; omega
    gi_wp2
    exact hK _ _ ((KeepsOthers.alloc _ _).from _) ⟨(Below.refl _ W).alloc (by have := HS2.out; omega) _, Below.heap_alloc _ _ _ (by omega)⟩ (hI.chg ((Chg.refl [] W).alloc _) (by simp)) ⟨W.heap.size, hW, World.alloc_heap_new _ _, rfl⟩
  case body =>
    rintro l pre x a' W hl ⟨r, hr⟩ hI ⟨Bx, hBx, bX, rfl⟩ hlt
    obtain ⟨o, ho⟩ : ∃ o, objs[x.1.1]? = some o := ⟨_, List.getElem?_eq_getElem (by rw [← HOI.out.1]; exact (List.getElem?_eq_some_iff.1 x.2).1)⟩
    obtain ⟨hid, hvx, hwf⟩ := HOI.out.2 _ _ _ x.2 ho
    have HI := Lib.hid hI
    have HX := Lib.hid ho
    have HWF := Lib.hid hwf
    have HCK := Lib.hid (check_any o.2 (obV x.1.2) W (fun b => b < w.heap.size) (hvx.below hI.bl (fun b hb => hb)) (fun b hb => Nat.lt_of_lt_of_le hb hI.bl.size))
    have x0 : W.cell? ⟨Bx, 0, none⟩ = some (.int .i64 x.1.2.id) := by simp [World.cell?, bX]
    have x1 : W.cell? ⟨Bx, 1, none⟩ = some (.int .i64 x.1.2.k) := by simp [World.cell?, bX]
    have x2 : W.cell? ⟨Bx, 2, none⟩ = some (.int .i64 x.1.2.n) := by simp [World.cell?, bX]
    have x3 : W.cell? ⟨Bx, 3, none⟩ = some (.string x.1.2.s) := by simp [World.cell?, bX]
    have x4 : W.cell? ⟨Bx, 4, none⟩ = some (.slice x.1.2.ao x.1.2.len x.1.2.cap) := by simp [World.cell?, bX]
    have HBX := Lib.hid bX
    have HBL := Lib.hid hBx
    have hmem : o ∈ objs := List.mem_of_getElem? ho
    have HMEM := Lib.hid hmem
    unfold obV at HCK
    clear hI ho hid hvx hwf bX hmem
    obtain ⟨er, her⟩ : ∃ er, encErr o.2 = er := ⟨_, rfl⟩
    have HEE := Lib.hid her
    rw [her] at HCK
    clear her
    by_cases hck : er = 0
    · subst hck
      gi_wp2_with (refine ⟨trivial, ?_⟩; gi_at_call 25; refine (callsIn_round HCK.out).mono ?_; rintro e w5 ⟨rfl, hb5⟩; have HB5 := Lib.hid hb5; have HI5 := Lib.hid (HI.out.chg (below_chg hb5) (by simp)); have bx5 := (hb5.block Bx (lt_of_block HBX.out)).trans HBX.out; have HBX5 := Lib.hid bx5; clear x0 x1 x2 x3 x4 hb5 bx5)
      have x0 : w5.cell? ⟨Bx, 0, none⟩ = some (.int .i64 x.1.2.id) := by simp [World.cell?, HBX5.out]
      have x1 : w5.cell? ⟨Bx, 1, none⟩ = some (.int .i64 x.1.2.k) := by simp [World.cell?, HBX5.out]
      have x2 : w5.cell? ⟨Bx, 2, none⟩ = some (.int .i64 x.1.2.n) := by simp [World.cell?, HBX5.out]
      have x3 : w5.cell? ⟨Bx, 3, none⟩ = some (.string x.1.2.s) := by simp [World.cell?, HBX5.out]
      have x4 : w5.cell? ⟨Bx, 4, none⟩ = some (.slice x.1.2.ao x.1.2.len x.1.2.cap) := by simp [World.cell?, HBX5.out]
      obtain ⟨m0, _, _, _, _⟩ := cells4 HI5.out.bW
      obtain ⟨p0, _⟩ := cells1 HI5.out.bP
      refine still_round 8 (by kernel_rfl) (by kernel_rfl) (by kernel_rfl) (fun ⟨_, _, h⟩ => h) (fun X hX => ?_)
      clear hX
      simp only [List.take_succ_cons, List.take_zero, List.drop_succ_cons, List.drop_zero]
      repeat (refine st_plain rfl (fun K hK => ?_); go_simp; (try go_bits); (refine hK _ ?_; clear hK K))
      refine wpStill_nil ?_
      refine wpList_update_vmap rfl _ _ _ 70 rfl Tryz.underlying3 Tryz.underlying70 (HI5.out.va.chg (F := []) (w' := w5.drew) ((Chg.refl [] w5).drewN 1) (by simp)) (by have := HOL.out; have := HOI.out.1; unfold maxLen; omega) rfl x.1.2.id (obV x.1.2) rfl rfl HWF.out ?_
      intro w6 hm6 hc6
      have hc56 : Chg [w2.heap.size + 1] w5 w6 := ((Chg.refl _ w5).drewN 1).trans hc6 (fun k hk => .inl hk)
      have hcW : Chg [w2.heap.size + 1] W w6 := ((below_chg HB5.out).mono (by simp)).trans hc56 (fun k hk => .inl hk)
      have hi5 := HI5.out
      have hs2 := HS2.out
      have hnx : ∀ k, k ≠ w2.heap.size + 1 → k ∉ [w2.heap.size + 1] := fun k hk => by simpa using hk
      have hmk : MkI w w2.heap.size (.slice ao obs.length co) objs (pre ++ [x]) w6 := {
        bH := (hc56.block _ (lt_of_block hi5.bH) (hnx _ (by omega))).trans hi5.bH
        bE := (hc56.block _ (lt_of_block hi5.bE) (hnx _ (by omega))).trans hi5.bE
        bW := (hc56.block _ (lt_of_block hi5.bW) (hnx _ (by omega))).trans hi5.bW
        bP := (hc56.block _ (lt_of_block hi5.bP) (hnx _ (by omega))).trans hi5.bP
        bS := (hc56.block _ (lt_of_block hi5.bS) (hnx _ (by omega))).trans hi5.bS
        va := by rw [List.length_append, List.length_singleton, allM_snoc]; exact hm6
        nm := hi5.nm.chg hc56 (hnx _ (by omega))
        ok := fun y hy q hq => by
          rcases List.mem_append.1 hy with h | h
          · exact hi5.ok y h q hq
          · rw [List.mem_singleton.1 h, HX.out] at hq
            cases hq
            exact HEE.out
        bl := hi5.bl.trans (hc56.below (by have := lt_of_block hi5.bH; omega) (fun k hk => by simp at hk; omega))
        sz := hi5.sz }
      have hkp : KpB w.heap.size (w2.heap.size + 1 + 1 + 1 + 1 + 1) W w6 := ⟨hcW.below (by have := lt_of_block HI.out.bH; omega) (fun k hk => by simp at hk; omega), hcW.block _ (lt_of_block HI.out.bS) (hnx _ (by omega))⟩
      have hkf : KeepsFrom W0.heap.size W w6 := keepsFrom_chg hcW (fun k hk => by simp at hk; have := HS0.out; omega)
      exact ⟨hkf, hkp, hmk⟩
    · have k1 : (er == 0) = false := by simpa using hck
      have k2 : (er != 0) = true := by simpa using hck
      gi_wp2_with (refine ⟨trivial, ?_⟩; gi_at_call 25; refine (callsIn_round HCK.out).mono ?_; rintro e w5 ⟨rfl, hb5⟩; have HB5 := Lib.hid hb5; have HI5 := Lib.hid (HI.out.chg (below_chg hb5) (by simp)); obtain ⟨g0, g1, g2⟩ := cells2 HI5.out.bH; obtain ⟨g3, g4⟩ := cells1 HI5.out.bE; clear x0 x1 x2 x3 x4 hb5)
      obtain ⟨r1, r2, r3⟩ := res_set (a' := .slice none 0 0) (b' := .slice none 0 0) (c' := .int .i64 2) HI5.out.bH HI5.out.bE
      have hi5 := HI5.out
      have hs2 := HS2.out
      refine ⟨keepsFrom_chg (((below_chg HB5.out).mono (by simp)).trans r3 (fun k hk => .inl hk)) (fun k hk => by simp at hk; have := HS0.out; omega), rfl, r1, r2, ⟨o, HMEM.out, by rw [HEE.out]; exact hck⟩, hi5.bl.trans (r3.below (by have := lt_of_block hi5.bH; omega) (fun k hk => by simp at hk; omega))⟩
  case done =>
    rintro D ys W hD hys hI hK
    have hgood : ∀ o ∈ objs, encErr o.2 = 0 := fun o ho => by
      obtain ⟨q, hq⟩ := List.mem_iff_getElem?.1 ho
      have hql := (List.getElem?_eq_some_iff.1 hq).1
      obtain ⟨ob, hob⟩ : ∃ ob, obs[q]? = some ob := ⟨_, List.getElem?_eq_getElem (by rw [HOI.out.1]; exact hql)⟩
      have hm : ob ∈ ys.map (·.1.2) := by rw [hys]; exact List.mem_reverse.2 (List.mem_of_getElem? hob)
      obtain ⟨y, hy, hyo⟩ := List.mem_map.1 hm
      obtain ⟨o2, ho2⟩ : ∃ o2, objs[y.1.1]? = some o2 := ⟨_, List.getElem?_eq_getElem (by rw [← HOI.out.1]; exact (List.getElem?_eq_some_iff.1 y.2).1)⟩
      have h1 := (HOI.out.2 _ _ _ hob hq).2.1
      have h2 := (HOI.out.2 _ _ _ y.2 ho2).2.1
      rw [hyo] at h2
      rw [valIs_inj _ _ _ h1 h2]
      exact hI.ok y hy o2 ho2
    have hall := allM_at HOI.out hys
    have HGOOD := Lib.hid hgood
    have HALL := Lib.hid hall
    have HI := Lib.hid hI
    have HKD := Lib.hid hK
    have HDD := Lib.hid hD
    clear hgood hall hys hI hK hD
    gi_upto_region 12 with (refine ⟨trivial, ?_⟩; gi_at_call 26; refine (callsIn_wide.2 (HSO.out _ (HI.out.bl.alloc HI.out.bl.size _))).mono ?_; rintro e w7 ⟨v7, rfl, hr7, _, hb7⟩; have hr8 := hr7 s HS.out; obtain ⟨ar, cr, hv7, _⟩ := hr8.at_; subst hv7; have HR7 := Lib.hid hr8; have HB7 := Lib.hid hb7; have zG := (hb7.block W.heap.size (by simp)).trans (World.alloc_heap_new W (.cells #[.slice none 0 0, .slice none 0 0] 31)); have ZG := Lib.hid zG; obtain ⟨k3, k4, k5⟩ := cells2 zG; clear hr7 hr8 hb7 zG; simp only [HS.out, Option.isSome_some])
    refine wpIn_wide.2 ?_
    go_wp2
    have hBS := lt_of_block HI.out.bS
    have hbg8 := (heap_setCell_same w7 W.heap.size 0 _ _ (.slice ar s.length cr) ZG.out).trans rfl
    have hc8 : Chg [W.heap.size] w7 (w7.setCell ⟨W.heap.size, 0, none⟩ (.slice ar s.length cr)) := (Chg.refl _ _).setCell (.inl (by simp)) _
    have hi8 : MkI w w2.heap.size (.slice ao obs.length co) objs ys (w7.setCell ⟨W.heap.size, 0, none⟩ (.slice ar s.length cr)) := ((HI.out.chg ((Chg.refl [] W).alloc _) (by simp)).chg (below_chg HB7.out) (by simp)).chg hc8 (fun k hk => by simp at hk; omega)
    have hown7 : ∀ k, (Value.slice ar s.length cr).ownBlock = some k → W.heap.size + 1 ≤ k := fun k hk => by have := HR7.out.2 k hk; simpa using this
    have hr8 : RtRow 82 (w7.setCell ⟨W.heap.size, 0, none⟩ (.slice ar s.length cr)) w.heap.size (.slice ar s.length cr) s := (HR7.out.chg hc8 (fun k hk => by have := hown7 k hk; simp; omega)).mono (by have := HS2.out; simp; omega)
    have hDl : D < W.heap.size := (Array.getElem?_eq_some_iff.1 HKD.out).1
    have hkd8 : (w7.setCell ⟨W.heap.size, 0, none⟩ (.slice ar s.length cr)).heap[D]? = some (.deferred (some [])) := (hc8.block D (Nat.lt_of_lt_of_le (Nat.lt_succ_of_lt hDl) (by have := HB7.out.size; simpa using this)) (by simp; omega)).trans ((HB7.out.block D (by simp; omega)).trans ((Below.heap_alloc _ _ _ hDl).trans HKD.out))
    have HKD8 := Lib.hid hkd8
    have HDL := Lib.hid hDl
    clear hkd8 hDl
    generalize w7.setCell ⟨W.heap.size, 0, none⟩ (.slice ar s.length cr) = w8 at hbg8 hc8 hi8 hr8 HKD8 ⊢
    have hs2 := HS2.out
    have hwk8 : WkAt w8 (w.heap.size) (w2.heap.size + 1 + 1 + 1) (w2.heap.size + 1) (w2.heap.size + 1 + 1) (.slice none 0 0) (.slice none 0 0) [] := {
      blk := hi8.bW
      mp := hi8.nm.congr (fun k => rfl)
      wt := IRow.nil _ _
      pr := PRow.nil _ _
      wf := fun id h => by cases h
      n0 := by have := lt_of_block hi8.bW; omega
      n1 := by omega
      n2 := by omega
      e1 := by omega
      e2 := by simp [Value.ownBlock]
      e3 := by simp [Value.ownBlock]
      e4 := by simp [Value.ownBlock]
      e5 := by simp [Value.ownBlock]
      e6 := fun k hk => by simp [Value.ownBlock] at hk }
    have hxx : ∀ k, k ≠ w2.heap.size + 1 + 1 + 1 → k ≠ w2.heap.size + 1 + 1 → k ∉ wkF (w2.heap.size + 1 + 1 + 1) (w2.heap.size + 1 + 1) (.slice none 0 0) (.slice none 0 0) := fun k h1 h2 => by simp [wkF, Value.ownBlock, h1, h2]
    have HI8 := Lib.hid hi8
    have HXX := Lib.hid hxx
    have HO7 := Lib.hid hown7
    have HBG8 := Lib.hid hbg8
    have HWK8 := Lib.hid hwk8
    have HR8 := Lib.hid hr8
    have HBS := Lib.hid hBS
    have hsz8 : W.heap.size < w8.heap.size := lt_of_block hbg8
    have HSZ8 := Lib.hid hsz8
    clear hi8 hxx hown7 hbg8 hwk8 hr8 hBS hc8 hsz8 k3 k4 k5
    generalize hBg : W.heap.size = Bg at HBG8 HBS HO7 HSZ8 HDL ⊢
    clear ZG HR7 HB7
    refine wpIn_wide.2 ?_
    refine use_regG (c' := mkB2) (by kernel_rfl) ?_
    refine mk2 (N := w.heap.size) (sw0 := .slice none 0 0) (sl0 := .slice none 0 0) HWK8.out HI8.out.bP HBG8.out HR8.out (HXX.out _ (by omega) (by omega)) (HXX.out _ (by have := HBS.out; omega) (by have := HBS.out; omega)) (fun k hk => ⟨HXX.out k (by have := HO7.out k hk; have := HBS.out; omega) (by have := HO7.out k hk; have := HBS.out; omega), by have := HO7.out k hk; have := HBS.out; omega, by have := HO7.out k hk; omega⟩) HSL.out HGW.out ?_
    intro v12 v13 v63 v64 v65 v66 v67 v68 v69 v70 v71 v72 v73 v74 v75 v76 v77 v78 v79 v80 v81 v82 v83 v84 w9 sw9 sl9 hwk9 hws9 hrow9
    have HWK9 := Lib.hid hwk9
    have HWS9 := Lib.hid hws9
    have HRW9 := Lib.hid hrow9
    clear hwk9 hws9 hrow9
    gi_upto_region 19 with (fail)
    refine wpIn_wide.2 ?_
    go_wp2
    have hnk9 : ∀ k, k < w8.heap.size → k ≠ w2.heap.size + 1 + 1 + 1 → k ≠ w2.heap.size + 1 + 1 → k ∉ wkF (w2.heap.size + 1 + 1 + 1) (w2.heap.size + 1 + 1) sw9 sl9 := fun k h1 h2 h3 h4 => by
      rcases HWS9.out.wkF h4 with e | e
      · exact HXX.out k h2 h3 e
      · omega
    have hno9 : ∀ k, k ≤ Bg → k ∉ (Value.slice ar s.length cr).ownBlock.toList := fun k hk h => by have := HO7.out k (by simpa using h); omega
    have hbl9 : ∀ k, k ≤ Bg → k ≠ w2.heap.size + 1 + 1 + 1 → k ≠ w2.heap.size + 1 + 1 → w9.heap[k]? = w8.heap[k]? := fun k h1 h2 h3 => HWS9.out.block (by have := HSZ8.out; omega) (HXX.out k h2 h3) (hno9 k h1)
    have hbs := HBS.out
    have hbw9 : Below w.heap.size w w9 := HI8.out.bl.trans (HWS9.out.1.below (by have := HI8.out.bl.size; exact this) (fun k hk => by
      rcases List.mem_append.1 hk with h | h
      · have := wkF_ge HWK8.out h; omega
      · have := HO7.out k (by simpa using h); omega))
    have HNK9 := Lib.hid hnk9
    have HBL9 := Lib.hid hbl9
    have HBW9 := Lib.hid hbw9
    clear hnk9 hno9 hbl9 hbw9
    refine wpIn_wide.2 ?_
    refine use_regG (c' := mkB4) (by kernel_rfl) ?_
    refine mk4 (N := w.heap.size) (objs := objs) (fa := allM ys) (nv := ys.length) (H := w.heap.size) HWK9.out ((HBL9.out _ (by omega) (by omega) (by omega)).trans HI8.out.bP) (HI8.out.va.chg HWS9.out.1 (fun h => by
      rcases List.mem_append.1 h with h | h
      · exact HXX.out _ (by omega) (by omega) h
      · have := HO7.out _ (by simpa using h); omega)) (HALL.out.below HBW9.out (by omega)) ((HBL9.out _ (by omega) (by omega) (by omega)).trans HI8.out.bH) ((HBL9.out _ (by omega) (by omega) (by omega)).trans HI8.out.bE) ⟨Nat.le_refl _, HNK9.out _ (by have := HSZ8.out; omega) (by omega) (by omega), HNK9.out _ (by have := HSZ8.out; omega) (by omega) (by omega)⟩
      (HNK9.out _ (by have := HSZ8.out; omega) (by omega) (by omega)) (HNK9.out _ (by have := HSZ8.out; omega) (by omega) (by omega)) HOL.out (by have := metOf_len s; have := HSL.out; omega) (Gr.meets_nodup .nil) HSZ.out ?_ ?_
    · intro v14 v15 v16 v17 v19 v85 v86 v87 v88 v89 v90 v91 v92 v93 v94 v95 v96 v97 v98 v99 v100 v101 v102 v103 v104 v105 v106 v107 v108 v109 v110 v111 v112 v113 v114 v115 v116 v117 v118 v119 v120 v121 v122 v123 v124 v125 v126 w10 sw10 sl10 met10 vals10 hbf hwk10 hws10 hvr10 hvx10 hml10 hvl10
      obtain ⟨a14, c14, e14⟩ := hvr10.form
      subst e14
      have HBF := Lib.hid hbf
      have HWK10 := Lib.hid hwk10
      have HWS10 := Lib.hid hws10
      have HVR10 := Lib.hid hvr10
      have HML10 := Lib.hid hml10
      have HVL10 := Lib.hid hvl10
      clear hbf hwk10 hws10 hvr10 hvx10 hml10 hvl10
      gi_upto_region 31 with (fail)
      refine wpIn_wide.2 ?_
      go_wp2
      have hbl10 : ∀ k, k ≤ Bg → k ≠ w2.heap.size + 1 + 1 + 1 → k ≠ w2.heap.size + 1 + 1 → w10.heap[k]? = w8.heap[k]? := fun k h1 h2 h3 => (HWS10.out.block (by have := HSZ8.out; have := HWS9.out.1.size; omega) (HNK9.out k (by have := HSZ8.out; omega) h2 h3) (by simp)).trans (HBL9.out k h1 h2 h3)
      have HBL10 := Lib.hid hbl10
      have hvo : ∀ k, (Value.slice a14 vals10.length c14).ownBlock = some k → k ≠ Bg := fun k hk => by have := HVR10.out.own hk; have := HSZ8.out; have := HWS9.out.1.size; omega
      have HVO := Lib.hid hvo
      clear hbl10 hvo
      refine wpIn_wide.2 ?_
      refine use_regG (c' := mkB8) (by kernel_rfl) ?_
      refine mk8 (N := w.heap.size) (rows := .slice ar s.length cr) HWK10.out (by have := HML10.out; omega) ((HBL10.out _ (by omega) (by omega) (by omega)).trans HI8.out.bP) ((HBL10.out _ (Nat.le_refl _) (by omega) (by omega)).trans HBG8.out) HVR10.out (fun h => by
        rcases HWS10.out.wkF h with e | e
        · exact HNK9.out Bg HSZ8.out (by omega) (by omega) e
        · have := HSZ8.out; have := HWS9.out.1.size; omega) (by omega) HVO.out (by omega) HVL10.out (fun v hv => by obtain ⟨o, ho, e⟩ := Gr.bfs_mem _ _ _ _ _ _ HBF.out (fun x hx => by cases hx) v hv; rw [← e]; exact HSZ.out o ho) ?_
      intro v21 v22 v23 v129 v130 v131 v132 v133 v134 v135 v136 v137 v138 v139 v140 v141 v142 v143 v144 v145 v146 v147 v148 w11 og hbg11 hor11 hch11
      have HBG11 := Lib.hid hbg11
      have HOR11 := Lib.hid hor11
      have HCH11 := Lib.hid hch11
      obtain ⟨ag, cg, eg⟩ := hor11.form
      rw [List.length_map] at eg
      subst eg
      obtain ⟨k0, k1, k2⟩ := cells2 hbg11
      have hbl11 : ∀ k, k < Bg → k ≠ w2.heap.size + 1 + 1 + 1 → k ≠ w2.heap.size + 1 + 1 → w11.heap[k]? = w8.heap[k]? := fun k h1 h2 h3 => (HCH11.out.block k (by have := HSZ8.out; have := HWS9.out.1.size; have := HWS10.out.1.size; omega) (by simp; omega)).trans (HBL10.out k (by omega) h2 h3)
      have hH11 := (hbl11 w.heap.size (by omega) (by omega) (by omega)).trans HI8.out.bH
      have hE11 := (hbl11 (w.heap.size + 1) (by omega) (by omega) (by omega)).trans HI8.out.bE
      have HH11 := Lib.hid hH11
      have HE11 := Lib.hid hE11
      obtain ⟨m0, m1, m2⟩ := cells2 hH11
      obtain ⟨n0, n1⟩ := cells1 hE11
      clear hbg11 hor11 hch11 hbl11 hH11 hE11
      gi_wp2
      obtain ⟨r1, r2, r3⟩ := res_set (a' := .slice ar s.length cr) (b' := .slice ag vals10.length cg) (c' := .int .i64 0) HH11.out HE11.out
      generalize (((w11.setCell _ _).setCell _ _).setCell _ _) = w12 at r1 r2 r3 ⊢
      have hdd := HDD.out
      have hds := HS0.out
      have hDB := HDL.out
      have hD11 : w11.heap[D]? = some (.deferred (some [])) := (HCH11.out.block D (by have := HSZ8.out; have := HWS9.out.1.size; have := HWS10.out.1.size; omega) (by simp; omega)).trans ((HBL10.out D (by omega) (by omega) (by omega)).trans HKD8.out)
      have hD12 := (r3.block D (Array.getElem?_eq_some_iff.1 hD11).1 (by simp; omega)).trans hD11
      have hcd : Chg [D] w12 (w12.putObj D (.deferred none)) := (Chg.refl _ w12).grown (grownBy_putObj' w12 D _) (fun k hk => by cases hk; exact .inl (by simp))
      obtain ⟨y0, y1, _⟩ := cells2 ((hcd.block _ (lt_of_block r1) (by simp; omega)).trans r1)
      obtain ⟨y2, _⟩ := cells1 ((hcd.block _ (lt_of_block r2) (by simp; omega)).trans r2)
      have hmt : makeT roots objs = (⟨s.map (renum met10), vals10.map (mvT met10)⟩, 0) := by
        unfold makeT
        rw [if_neg (fun h => h HER.out), if_neg (fun h => by obtain ⟨o, ho, he⟩ := List.any_eq_true.1 h; exact (by simpa using he : encErr o.2 ≠ 0) (HGOOD.out o ho)), HS.out]
        simp only
        have hb := HBF.out
        unfold metOf at hb
        rw [hb]
        rfl
      rw [hmt]
      refine ⟨by simp, .inl ⟨_, _, rfl, run_takeDeferred hD12, ?_⟩⟩
      refine ⟨.tuple #[.agg #[.slice ar s.length cr, .slice ag vals10.length cg], .int .i64 0], by simp [results, Tryz.results8, go_sem, y0, y1, y2], ?_⟩
      have hro : ∀ k, (Value.slice ar s.length cr).ownBlock = some k → Bg + 1 ≤ k ∧ k < w8.heap.size := fun k hk => ⟨HO7.out k hk, HR8.out.1.lt hk⟩
      have hrr := (((HRW9.out.chg HWS10.out.1 (fun k hk h => by
        rw [List.append_nil] at h
        exact HNK9.out k (hro k hk).2 (by have := (hro k hk).1; omega) (by have := (hro k hk).1; omega) h)).chg HCH11.out (fun k hk => by have := (hro k hk).1; simp; omega)).chg r3 (fun k hk => by have := (hro k hk).1; simp; omega)).chg hcd (fun k hk => by have := (hro k hk).1; simp; omega)
      rw [renum_pre (Gr.bfs_pre _ _ _ _ _ _ HBF.out) (fun r hr => by unfold metOf; exact Gr.meets_mem.2 (.inr (List.mem_map.2 ⟨r, hr, rfl⟩)))] at hrr
      have hsz10 : Bg < w10.heap.size := by have := HSZ8.out; have := HWS9.out.1.size; have := HWS10.out.1.size; omega
      have hog : ∀ k, (Value.slice ag vals10.length cg).ownBlock = some k → w10.heap.size ≤ k := fun k hk => HOR11.out.own hk
      have hvv := (VRow.chg HOR11.out r3 (fun k hk => by have := hog k hk; simp; omega) (fun b hb => ⟨hb.2.1, by simp; rcases hb.1 with h | h <;> omega⟩)).chg hcd (fun k hk => by have := hog k hk; simp; omega) (fun b hb => ⟨Nat.lt_of_lt_of_le hb.2.1 r3.size, by simp; have := HS2.out; rcases hb.1 with h | h <;> omega⟩)
      obtain ⟨aq, cq, eq, q1, q2, q3, q4⟩ := hvv.kids (Q := fun b => b < (w12.putObj D (.deferred none)).heap.size) (fun b hb => Nat.lt_of_lt_of_le (Nat.lt_of_lt_of_le hb.2.1 r3.size) hcd.size) (fun k hk => hvv.lt hk)
      have hbe : Below w.heap.size w (w12.putObj D (.deferred none)) := by
        have b10 := HBW9.out.trans (WkS.below HWK9.out HWS10.out)
        have b11 := b10.trans (HCH11.out.below (by have := b10.size; exact this) (fun k hk => by simp at hk; omega))
        have b12 := b11.trans (r3.below b11.size (fun k hk => by simp at hk; omega))
        exact b12.trans (hcd.below b12.size (fun k hk => by simp at hk; omega))
      exact ⟨_, _, rfl, hrr.at_, ⟨aq, cq, eq, q1, q2, q3, q4⟩, hbe⟩
    · intro hbn v14 v15 v16 v17 v19 v85 v86 v87 v88 v89 v90 v91 v92 v93 v94 v95 v96 v97 v98 v99 v100 v101 v102 v103 v104 v105 v106 v107 v108 v109 v110 v111 v112 v113 v114 v115 v116 v117 v118 v119 v120 v121 v122 v123 v124 v125 v126 w10 hH hE hb hD10
      have hdd := HDD.out
      have hds := HS0.out
      have hcd : Chg [D] w10 (w10.putObj D (.deferred none)) := (Chg.refl _ w10).grown (grownBy_putObj' w10 D _) (fun k hk => by cases hk; exact .inl (by simp))
      obtain ⟨y0, y1, _⟩ := cells2 ((hcd.block _ (lt_of_block hH) (by simp; omega)).trans hH)
      obtain ⟨y2, _⟩ := cells1 ((hcd.block _ (lt_of_block hE) (by simp; omega)).trans hE)
      have hmt : makeT roots objs = (⟨[], []⟩, 5) := by
        unfold makeT
        rw [if_neg (fun h => h HER.out), if_neg (fun h => by obtain ⟨o, ho, he⟩ := List.any_eq_true.1 h; exact (by simpa using he : encErr o.2 ≠ 0) (HGOOD.out o ho)), HS.out]
        simp only
        unfold metOf at hbn
        rw [hbn]
      rw [hmt]
      refine ⟨by simp, .inl ⟨_, _, rfl, run_takeDeferred (hD10 D _ ((HBL9.out D (by have := HDL.out; omega) (by omega) (by omega)).trans HKD8.out) (HNK9.out D (by have := HDL.out; have := HSZ8.out; omega) (by omega) (by omega)) (by omega) (by omega)), ?_⟩⟩
      refine ⟨.tuple #[.agg #[.slice none 0 0, .slice none 0 0], .int .i64 5], by simp [results, Tryz.results8, go_sem, y0, y1, y2], ?_⟩
      have b10 := HBW9.out.trans hb
      exact ⟨_, _, rfl, rtAt_nil _, VsAt.nil _, b10.trans (hcd.below b10.size (fun k hk => by simp at hk; omega))⟩
  case stop =>
    rintro D c pre W hD _ ⟨rfl, hH, hE, ⟨o, ho, he⟩, hb⟩ hK
    gi_wp2
    have hcd : Chg [D] W (W.putObj D (.deferred none)) := (Chg.refl _ W).grown (grownBy_putObj' W D _) (fun k hk => by cases hk; exact .inl (by simp))
    have hdl : w.heap.size + 2 ≤ D := by have := HS2.out; omega
    obtain ⟨y0, y1, _⟩ := cells2 ((hcd.block _ (lt_of_block hH) (by simp; omega)).trans hH)
    obtain ⟨y2, _⟩ := cells1 ((hcd.block _ (lt_of_block hE) (by simp; omega)).trans hE)
    have hmt : makeT roots objs = (⟨[], []⟩, 2) := by
      unfold makeT
      rw [if_neg (fun h => h HER.out), if_pos (List.any_eq_true.2 ⟨o, ho, by simpa using he⟩)]
    rw [hmt]
    refine ⟨by simp, .inl ⟨_, _, rfl, run_takeDeferred hK, ?_⟩⟩
    refine ⟨.tuple #[.agg #[.slice none 0 0, .slice none 0 0], .int .i64 2], by simp [results, Tryz.results8, go_sem, y0, y1, y2], ?_⟩
    exact ⟨_, _, rfl, rtAt_nil _, VsAt.nil _, hb.trans (hcd.below (by have := hb.size; omega) (by simp; omega))⟩
/-- The program's Make. -/
theorem make_any (w : World) (vr vo : Value) (roots : List RT) (obs : List OB) (objs : List (Int × VT)) (hr : RtAt w vr roots) (hl : roots.length ≤ 1000000) (hgd : ∀ r ∈ roots, Gd r)
    (ho : ObAt w vo obs) (hoi : ObsIs w (fun b => b < w.heap.size) obs objs) (hol : objs.length ≤ 100) (hsz : ∀ o ∈ objs, o.2.sz ≤ 1000) : Calls Tryz.prog 8 #[vr, vo] w (MakeEnd w (makeT roots objs)) := by
  by_cases h0 : (dirT roots).2 = 0
  · have hx : ∃ s, sortO roots [] = some s ∧ roots.length ≤ 100 := by
      unfold dirT at h0
      split at h0
      · exact absurd h0 (by decide)
      · rename_i hle
        cases hs : sortO roots [] with
        | none => rw [hs] at h0; exact absurd h0 (by decide)
        | some s => exact ⟨s, rfl, by omega⟩
    obtain ⟨s, hs, hle⟩ := hx
    have hp := (Gr.sortO_some .nil hs).2.1.length_eq
    rw [List.append_nil] at hp
    exact make_rest w vr vo roots s obs objs hr hl hgd h0 hs (by omega) ho hoi hol hsz
  · exact make_dir w vr vo roots objs hr hl hgd _ rfl h0
end Go.Proofs.YtenikoecnfbfoaaGreatDoor
/- Layer 8: the program's Text of a graph. -/
namespace Go.Proofs.YtenikoecnfbfoaaGreatDoor
open Go.RowKit
set_option linter.unusedVariables false
set_option linter.unusedSimpArgs false
open Gr (RT GT)
/-- A root's line; an object's line; the whole text. -/
def rLine (r : RT) : List UInt8 := r.name ++ [58] ++ r.typ ++ [61, 64] ++ Lib.itoa (wr r.id) ++ [10]
def oLine (F : Nat → List UInt8) (i : Nat) (t : VT) : List UInt8 := [64] ++ Lib.itoa (wr ((i : Int) + 1)) ++ [61] ++ t.txt F ++ [10]
def rLines (l : List RT) : List UInt8 := l.flatMap rLine
def oLines (F : Nat → List UInt8) : Nat → List VT → List UInt8
  | _, [] => []
  | i, t :: l => oLine F i t ++ oLines F (i + 1) l
def graphTxt (F : Nat → List UInt8) (g : GT) : List UInt8 := rLines g.roots ++ oLines F 0 g.objs
theorem itoa_wr_len (n : Int) : (Lib.itoa (wr n)).length ≤ 21 := Lib.itoa_length_le _ (by have := wr_ge n; omega) (by have := wr_le n; omega)
theorem rLines_take {l : List RT} {i : Nat} {r : RT} (h : l[i]? = some r) : rLines (l.take (i + 1)) = rLines (l.take i) ++ rLine r := by
  rw [List.take_add_one, h]; simp [rLines]
theorem rLine_len {r : RT} (h : r.name.length ≤ 1000 ∧ r.typ.length ≤ 1000) : (rLine r).length ≤ 3000 := by
  have := itoa_wr_len r.id
  simp only [rLine, List.length_append, List.length_cons, List.length_nil]; omega
theorem rLines_len : ∀ (l : List RT), (∀ r ∈ l, r.name.length ≤ 1000 ∧ r.typ.length ≤ 1000) → (rLines l).length ≤ l.length * 3000
  | [], _ => by simp [rLines]
  | r :: l, h => by
    have h1 := rLine_len (h r (by simp))
    have h2 := rLines_len l fun x hx => h x (by simp [hx])
    simp only [rLines, List.flatMap_cons, List.length_append, List.length_cons] at h2 ⊢
    omega
theorem oLines_append (F : Nat → List UInt8) : ∀ (a b : List VT) (i : Nat), oLines F i (a ++ b) = oLines F i a ++ oLines F (i + a.length) b
  | [], b, i => by simp [oLines]
  | t :: a, b, i => by
    rw [List.cons_append, oLines, oLines, oLines_append F a b, List.append_assoc]
    congr 3
    simp only [List.length_cons]; omega
theorem oLines_take {F : Nat → List UInt8} {l : List VT} {i : Nat} {t : VT} (h : l[i]? = some t) : oLines F 0 (l.take (i + 1)) = oLines F 0 (l.take i) ++ oLine F i t := by
  have hi : i < l.length := (List.getElem?_eq_some_iff.1 h).1
  rw [List.take_add_one, h, oLines_append]
  simp [oLines, Nat.min_eq_left (Nat.le_of_lt hi)]
theorem oLine_len {F : Nat → List UInt8} {i : Nat} {t : VT} (h : (t.txt F).length ≤ 1000000) : (oLine F i t).length ≤ 1000050 := by
  have := itoa_wr_len ((i : Int) + 1)
  simp only [oLine, List.length_append, List.length_cons, List.length_nil]; omega
theorem oLines_len (F : Nat → List UInt8) : ∀ (l : List VT) (i : Nat), (∀ t ∈ l, (t.txt F).length ≤ 1000000) → (oLines F i l).length ≤ l.length * 1000050
  | [], _, _ => by simp [oLines]
  | t :: l, i, h => by
    have h1 := oLine_len (F := F) (i := i) (h t (by simp))
    have h2 := oLines_len F l (i + 1) fun x hx => h x (by simp [hx])
    simp only [oLines, List.length_append, List.length_cons] at h2 ⊢
    omega
theorem oJoin (A a c : List UInt8) : bytes A ++ ((⟨#[64]⟩ ++ bytes a ++ ⟨#[61]⟩ ++ bytes c) ++ ⟨#[10]⟩) = bytes (A ++ ([64] ++ a ++ [61] ++ c ++ [10])) := by
  apply Go.WideShapes.bytes_inj
  simp [bytes]
def TxI (w0 : World) (l : List RT) (gk : Nat) (s3 s11 : Value) (wx : World) : Prop :=
  ∃ i : Nat, s11 = .int .i64 (i : Int) ∧ i + gk = l.length ∧ s3 = .string (bytes (rLines (l.take i))) ∧ Below w0.heap.size w0 wx
def TxO (F : Nat → List UInt8) (w0 : World) (pre : List UInt8) (l : List VT) (gk : Nat) (s3 s33 : Value) (wx : World) : Prop :=
  ∃ i : Nat, s33 = .int .i64 (i : Int) ∧ i + gk = l.length ∧ s3 = .string (bytes (pre ++ oLines F 0 (l.take i))) ∧ Below w0.heap.size w0 wx
set_option maxRecDepth 100000 in
set_option maxHeartbeats 8000000 in
theorem graphText_any (F : Nat → List UInt8) (w : World) (vr vo : Value) (roots : List RT) (objs : List VT) (hT : Tab w) (hr : RtAt w vr roots) (ho : VsAt w vo objs) (hl : roots.length ≤ 1000000) (hlo : objs.length ≤ 1000000)
    (hgd : ∀ r ∈ roots, r.name.length ≤ 1000 ∧ r.typ.length ≤ 1000) (hlen : ∀ t ∈ objs, (t.txt F).length ≤ 1000000)
    (hV : ∀ t ∈ objs, ∀ (v : Value) (W : World), Below w.heap.size w W → ValIs w (fun b => b < w.heap.size) t v → Calls Tryz.prog 37 #[v] W fun e w' => e = .returned (.string (bytes (t.txt F))) ∧ Below W.heap.size W w') :
    Calls Tryz.prog 14 #[.agg #[vr, vo]] w fun e w' => e = .returned (.string (bytes (graphTxt F ⟨roots, objs⟩))) ∧ Below w.heap.size w w' := by
  obtain ⟨ao, cap, rfl, hcc⟩ := hr.cells
  obtain ⟨bo, capo, rfl, h1, h2, h3, hk⟩ := ho
  have HCC := Lib.hid hcc
  have HK := Lib.hid hk
  have HGD := Lib.hid hgd
  have HLEN := Lib.hid hlen
  have HV := Lib.hid hV
  have HT : Hid (∀ W, Below w.heap.size w W → Tab W) := fun W hW => hT.below hW
  have hl2 : (roots.length : Int) ≤ 1000000 := by omega
  have hl3 : (objs.length : Int) ≤ 1000000 := by omega
  clear hr hcc hk hgd hlen hV hT h1 h2 h3
  go_enter Tryz.func14, Tryz.ntmps14
  go_wp2
  obtain ⟨W0, hW0⟩ : ∃ W, (w.alloc (.cells #[.slice ao roots.length cap, .slice bo objs.length capo] 31)) = W := ⟨_, rfl⟩
  have HW0 : Hid (Below w.heap.size w W0) := by subst hW0; exact (Below.refl _ _).alloc (Nat.le_refl _) _
  go_loopg [3, 11] roots.length (fun gk s3 s11 wx => TxI (w.alloc (.cells #[.slice ao roots.length cap, .slice bo objs.length capo] 31)) roots gk s3 s11 wx)
  case atStart => exact ⟨0, rfl, by omega, rfl, Below.refl _ _⟩
  case round =>
    rename World => wx
    obtain ⟨i, rfl, hi, rfl, hb⟩ := hrel
    have HI := Lib.hid hi
    have HB := Lib.hid hb
    have i0 : (0 : Int) ≤ (i : Int) := by omega
    by_cases hlt : i < roots.length
    · have i1 : (i : Int) < (roots.length : Int) := by omega
      obtain ⟨r, hr⟩ : ∃ r, roots[i]? = some r := ⟨_, List.getElem?_eq_getElem hlt⟩
      obtain ⟨b, off, rfl, hbl, d0, d1, d2⟩ := HCC.out i r hr
      have hgr := HGD.out r (List.mem_of_getElem? hr)
      have HBW : Hid (Below w.heap.size w wx) := ((Below.refl _ _).alloc (Nat.le_refl _) _).trans (hb.mono (by simp))
      have c0 : wx.cell? ⟨b, off + i * 3, none⟩ = some (.string (bytes r.name)) := (HBW.out.cell (p := ⟨b, off + i * 3, none⟩) hbl).trans d0
      have c1 : wx.cell? ⟨b, off + i * 3 + 1, none⟩ = some (.string (bytes r.typ)) := (HBW.out.cell (p := ⟨b, off + i * 3 + 1, none⟩) hbl).trans d1
      have c2 : wx.cell? ⟨b, off + i * 3 + 2, none⟩ = some (.int .i64 r.id) := (HBW.out.cell (p := ⟨b, off + i * 3 + 2, none⟩) hbl).trans d2
      have HR := Lib.hid hr
      have HLT := Lib.hid hlt
      have HNT := Lib.hid (rLines_take hr)
      have HLEN3 : Hid ((rLines (roots.take i)).length ≤ 3000000000) := by
        have h5 := rLines_len (roots.take i) fun x hx => HGD.out x (List.mem_of_mem_take hx)
        have h6 : (roots.take i).length ≤ 1000000 := by rw [List.length_take]; omega
        show _ ≤ _
        omega
      obtain ⟨acc, hacc⟩ : ∃ a, rLines (roots.take i) = a := ⟨_, rfl⟩
      rw [hacc] at HNT HLEN3 ⊢
      have HACC := Lib.hid hacc
      have HN := Lib.hid hgr
      have HI2 := itoa_wr_len r.id
      have HI3 := Lib.hid HI2
      clear d0 d1 d2 hbl hr hlt hb hi hgr hacc HI2
      have hs1 : (bytes r.name).size ≤ 1000 := by rw [bytes_size]; exact HN.out.1
      have hs2 : (bytes r.typ).size ≤ 1000 := by rw [bytes_size]; exact HN.out.2
      have hs3 : (bytes (Lib.itoa (wr r.id))).size ≤ 21 := by rw [bytes_size]; exact HI3.out
      have hs4 : (bytes acc).size ≤ 3000000000 := by rw [bytes_size]; exact HLEN3.out
      have HID := fun W h => numText_any r.id W h
      have HFIN : Hid (bytes acc ++ ((bytes r.name ++ ⟨#[58]⟩ ++ bytes r.typ ++ ⟨#[61, 64]⟩ ++ bytes (Lib.itoa (wr r.id))) ++ ⟨#[10]⟩) = bytes (rLines (roots.take (i + 1)))) := by
        rw [HNT.out]
        apply Go.WideShapes.bytes_inj
        simp [bytes, rLine]
      obtain ⟨nm, hnm⟩ : ∃ x, bytes r.name = x := ⟨_, rfl⟩
      obtain ⟨ty, hty⟩ : ∃ x, bytes r.typ = x := ⟨_, rfl⟩
      obtain ⟨it, hit⟩ : ∃ x, bytes (Lib.itoa (wr r.id)) = x := ⟨_, rfl⟩
      obtain ⟨ac, hac⟩ : ∃ x, bytes acc = x := ⟨_, rfl⟩
      rw [hnm] at c0 hs1 HFIN
      rw [hty] at c1 hs2 HFIN
      rw [hit] at hs3 HFIN
      rw [hac] at hs4 HFIN ⊢
      simp only [hit] at HID
      have HID' := Lib.hid HID
      clear HID hnm hty hit hac
      have HS : Hid (∀ W, Below (wx.alloc (.cells #[.string nm, .string ty, .int .i64 r.id] 82)).heap.size (wx.alloc (.cells #[.string nm, .string ty, .int .i64 r.id] 82)) W → W.cell? ⟨wx.heap.size, 0, none⟩ = some (.string nm) ∧ W.cell? ⟨wx.heap.size, 1, none⟩ = some (.string ty) ∧ W.cell? ⟨wx.heap.size, 2, none⟩ = some (.int .i64 r.id)) := fun W hW => by
        have h9 := (hW.block wx.heap.size (by simp)).trans (World.alloc_heap_new wx _)
        exact ⟨by simp [World.cell?, h9], by simp [World.cell?, h9], by simp [World.cell?, h9]⟩
      have HBA : Hid (∀ W, Below (wx.alloc (.cells #[.string nm, .string ty, .int .i64 r.id] 82)).heap.size (wx.alloc (.cells #[.string nm, .string ty, .int .i64 r.id] 82)) W → Below w.heap.size w W) := fun W hW => HBW.out.trans ((((Below.refl _ _).alloc (Nat.le_refl _) _).trans (hW.mono (by simp))).mono HBW.out.size)
      have q1 : ¬ 9223372036854775807 < nm.size + 1 := by omega
      have q2 : ¬ 9223372036854775807 < nm.size + 1 + ty.size := by omega
      have q3 : ¬ 9223372036854775807 < nm.size + 1 + ty.size + 2 := by omega
      have q4 : ¬ 9223372036854775807 < nm.size + 1 + ty.size + 2 + it.size := by omega
      have q5 : ¬ 9223372036854775807 < nm.size + 1 + ty.size + 2 + it.size + 1 := by omega
      have q6 : ¬ 9223372036854775807 < ac.size + (nm.size + 1 + ty.size + 2 + it.size + 1) := by omega
      clear hs1 hs2 hs3 hs4
      go_wp2
      go_region_held3 (fun w' => w'.cell? ⟨wx.heap.size, 0, none⟩ = some (.string nm) ∧ w'.cell? ⟨wx.heap.size, 1, none⟩ = some (.string ty) ∧ w'.cell? ⟨wx.heap.size, 2, none⟩ = some (.int .i64 r.id))
        (first | exact HS.out _ (Below.refl _ _).drew | exact HS.out _ (Below.refl _ _) | exact HS.out _ HB7.out)
        (first | (go_at_call 36; refine (HID'.out _ (HT.out _ (HBA.out _ (Below.refl _ _).drew))).mono ?_; rintro e w7 ⟨rfl, hb7⟩; have HB7 := Lib.hid ((Below.refl _ _).drew.trans hb7); clear hb7))
      go_wp2
      go_roundg (gk - 1)
      case measure => have := HI.out; have := HLT.out; omega
      case rel => exact ⟨i + 1, by go_num, by have := HI.out; have := HLT.out; omega, by rw [← HFIN.out]; try rfl, HB.out.trans ((((Below.refl _ _).alloc (Nat.le_refl _) _).trans (HB7.out.mono (by simp))).mono HB.out.size)⟩
    · have i1 : ¬ (i : Int) < (roots.length : Int) := by omega
      have hz : roots.take i = roots := List.take_of_length_le (by omega)
      have hb0 := hb.block w.heap.size (by simp)
      rw [World.alloc_heap_new] at hb0
      have c0 : wx.cell? ⟨w.heap.size, 0, none⟩ = some (.slice ao roots.length cap) := by simp [World.cell?, hb0]
      have c1 : wx.cell? ⟨w.heap.size, 1, none⟩ = some (.slice bo objs.length capo) := by simp [World.cell?, hb0]
      rw [hz]
      have HPRE : Hid ((rLines roots).length ≤ 3000000000) := by
        have h5 := rLines_len roots HGD.out
        show _ ≤ _
        omega
      obtain ⟨pre, hpre⟩ : ∃ a, rLines roots = a := ⟨_, rfl⟩
      rw [hpre] at HPRE ⊢
      have HP := Lib.hid hpre
      clear hz hi hlt hpre hb0 hb
      go_wp2
      go_loopg [3, 33] objs.length (fun gk s3 s33 wy => TxO F wx pre objs gk s3 s33 wy)
      case atStart => exact ⟨0, rfl, by omega, by simp [oLines], Below.refl _ _⟩
      case round =>
        rename World => wy
        obtain ⟨i, rfl, hi, rfl, hb⟩ := hrel
        have HI := Lib.hid hi
        have HB2 := Lib.hid hb
        have i0 : (0 : Int) ≤ (i : Int) := by omega
        by_cases hlt : i < objs.length
        · have i1 : (i : Int) < (objs.length : Int) := by omega
          obtain ⟨t, ht⟩ : ∃ t, objs[i]? = some t := ⟨_, List.getElem?_eq_getElem hlt⟩
          obtain ⟨b, off, _, _, _, _, rfl, hbl, _⟩ := HK.out.get ht
          obtain ⟨_, aok, capk, d0, d1, d2, d3, hv⟩ := HK.out.cells ht
          unfold vval at hv
          have htl := HLEN.out t (List.mem_of_getElem? ht)
          have HBW : Hid (Below w.heap.size w wy) := (((Below.refl _ _).alloc (Nat.le_refl _) _).trans (HB.out.mono (by simp))).trans (hb.mono (by have := HB.out.size; simp at this; omega))
          simp only [Nat.zero_add] at d0 d1 d2 d3
          have c0 : wy.cell? ⟨b, off + i * 4, none⟩ = some (.int .i64 t.kind) := (HBW.out.cell (p := ⟨b, off + i * 4, none⟩) hbl).trans d0
          have c1 : wy.cell? ⟨b, off + i * 4 + 1, none⟩ = some (.int .i64 t.num) := (HBW.out.cell (p := ⟨b, off + i * 4 + 1, none⟩) hbl).trans d1
          have c2 : wy.cell? ⟨b, off + i * 4 + 2, none⟩ = some (.string t.text) := (HBW.out.cell (p := ⟨b, off + i * 4 + 2, none⟩) hbl).trans d2
          have c3 : wy.cell? ⟨b, off + i * 4 + 3, none⟩ = some (.slice aok t.kids.length capk) := (HBW.out.cell (p := ⟨b, off + i * 4 + 3, none⟩) hbl).trans d3
          have HVT : Hid (∀ W, Below w.heap.size w W → Calls Tryz.prog 37 #[.agg #[.int .i64 t.kind, .int .i64 t.num, .string t.text, .slice aok t.kids.length capk]] W fun e w' => e = .returned (.string (bytes (t.txt F))) ∧ Below W.heap.size W w') := fun W hW => HV.out t (List.mem_of_getElem? ht) _ W hW hv
          have HNT := Lib.hid (oLines_take (F := F) ht)
          have HL4 : Hid ((oLines F 0 (objs.take i)).length ≤ 1000050000000) := by
            have h5 := oLines_len F (objs.take i) 0 fun x hx => HLEN.out x (List.mem_of_mem_take hx)
            have h6 : (objs.take i).length ≤ 1000000 := by rw [List.length_take]; omega
            show _ ≤ _
            omega
          have hs1 : (bytes (Lib.itoa (wr ((i : Int) + 1)))).size ≤ 21 := by rw [bytes_size]; exact itoa_wr_len _
          have hs2 : (bytes (t.txt F)).size ≤ 1000000 := by rw [bytes_size]; exact htl
          have hs4 : (bytes (pre ++ oLines F 0 (objs.take i))).size ≤ 1100000000000 := by rw [bytes_size, List.length_append]; have := HL4.out; have := HPRE.out; omega
          have HID := fun W h => numText_any ((i : Int) + 1) W h
          have HFIN : Hid (bytes (pre ++ oLines F 0 (objs.take i)) ++ ((⟨#[64]⟩ ++ bytes (Lib.itoa (wr ((i : Int) + 1))) ++ ⟨#[61]⟩ ++ bytes (t.txt F)) ++ ⟨#[10]⟩) = bytes (pre ++ oLines F 0 (objs.take (i + 1)))) := by
            rw [HNT.out, ← List.append_assoc]
            unfold oLine
            exact oJoin _ _ _
          obtain ⟨it, hit⟩ : ∃ x, bytes (Lib.itoa (wr ((i : Int) + 1))) = x := ⟨_, rfl⟩
          obtain ⟨tx, htx⟩ : ∃ x, bytes (t.txt F) = x := ⟨_, rfl⟩
          obtain ⟨ac, hac⟩ : ∃ x, bytes (pre ++ oLines F 0 (objs.take i)) = x := ⟨_, rfl⟩
          rw [hit] at hs1 HFIN
          rw [htx] at hs2 HFIN HVT
          rw [hac] at hs4 HFIN ⊢
          simp only [hit] at HID
          have HID' := Lib.hid HID
          have HLT := Lib.hid hlt
          clear HID hit htx hac d0 d1 d2 d3 hbl hv ht htl hlt hb hi
          have HS : Hid (∀ W, Below (wy.alloc (.cells #[.int .i64 t.kind, .int .i64 t.num, .string t.text, .slice aok t.kids.length capk] 47)).heap.size (wy.alloc (.cells #[.int .i64 t.kind, .int .i64 t.num, .string t.text, .slice aok t.kids.length capk] 47)) W → W.cell? ⟨wy.heap.size, 0, none⟩ = some (.int .i64 t.kind) ∧ W.cell? ⟨wy.heap.size, 1, none⟩ = some (.int .i64 t.num) ∧ W.cell? ⟨wy.heap.size, 2, none⟩ = some (.string t.text) ∧ W.cell? ⟨wy.heap.size, 3, none⟩ = some (.slice aok t.kids.length capk)) := fun W hW => by
            have h9 := (hW.block wy.heap.size (by simp)).trans (World.alloc_heap_new wy _)
            exact ⟨by simp [World.cell?, h9], by simp [World.cell?, h9], by simp [World.cell?, h9], by simp [World.cell?, h9]⟩
          have HBA : Hid (∀ W, Below (wy.alloc (.cells #[.int .i64 t.kind, .int .i64 t.num, .string t.text, .slice aok t.kids.length capk] 47)).heap.size (wy.alloc (.cells #[.int .i64 t.kind, .int .i64 t.num, .string t.text, .slice aok t.kids.length capk] 47)) W → Below w.heap.size w W) := fun W hW => HBW.out.trans ((((Below.refl _ _).alloc (Nat.le_refl _) _).trans (hW.mono (by simp))).mono HBW.out.size)
          have q1 : ¬ 9223372036854775807 < 1 + it.size := by omega
          have q2 : ¬ 9223372036854775807 < 1 + it.size + 1 := by omega
          have q3 : ¬ 9223372036854775807 < 1 + it.size + 1 + tx.size := by omega
          have q4 : ¬ 9223372036854775807 < 1 + it.size + 1 + tx.size + 1 := by omega
          have q5 : ¬ 9223372036854775807 < ac.size + (1 + it.size + 1 + tx.size + 1) := by omega
          have hw1 : IntKind.i64.wrap ((i : Int) + 1) = (i : Int) + 1 := by rw [IntKind.wrap_i64]; omega
          clear hs1 hs2 hs4
          go_wp2
          go_region_held3 (fun w' => w'.cell? ⟨wy.heap.size, 0, none⟩ = some (.int .i64 t.kind) ∧ w'.cell? ⟨wy.heap.size, 1, none⟩ = some (.int .i64 t.num) ∧ w'.cell? ⟨wy.heap.size, 2, none⟩ = some (.string t.text) ∧ w'.cell? ⟨wy.heap.size, 3, none⟩ = some (.slice aok t.kids.length capk))
            (first | exact HS.out _ (Below.refl _ _).drew | exact HS.out _ (Below.refl _ _) | exact HS.out _ HB7.out | exact HS.out _ HB8.out)
            (first
              | (go_at_call 36; refine (HID'.out _ (HT.out _ (HBA.out _ (Below.refl _ _).drew))).mono ?_; rintro e w7 ⟨rfl, hb7⟩; have HB7 := Lib.hid ((Below.refl _ _).drew.trans hb7); clear hb7)
              | (go_at_call 37; refine (HVT.out _ (HBA.out _ HB7.out)).mono ?_; rintro e w8 ⟨rfl, hb8⟩; have HB8 := Lib.hid (HB7.out.trans (hb8.mono HB7.out.size)); clear hb8))
          go_wp2
          go_roundg (gk - 1)
          case measure => have := HI.out; have := HLT.out; omega
          case rel => exact ⟨i + 1, by go_num, by have := HI.out; have := HLT.out; omega, by rw [← HFIN.out]; try rfl, HB2.out.trans ((((Below.refl _ _).alloc (Nat.le_refl _) _).trans (HB8.out.mono (by simp))).mono HB2.out.size)⟩
        · have i1 : ¬ (i : Int) < (objs.length : Int) := by omega
          have hz : objs.take i = objs := List.take_of_length_le (by omega)
          rw [hz]
          have HE : Hid (bytes (pre ++ oLines F 0 objs) = bytes (graphTxt F ⟨roots, objs⟩)) := by rw [← HP.out]; rfl
          clear hz hi hlt hb
          rw [HE.out]
          go_wp2
          go_ret
          exact ⟨rfl, (((Below.refl _ _).alloc (Nat.le_refl _) _).trans (HB.out.mono (by simp))).trans (HB2.out.mono (by have := HB.out.size; simp at this; omega))⟩
end Go.Proofs.YtenikoecnfbfoaaGreatDoor
/- Layer 8: the small graph that every law looks at, in plain words. -/
namespace Go.Proofs.YtenikoecnfbfoaaGreatDoor
namespace Gr
open Wr
set_option linter.unusedVariables false
set_option linter.unusedSimpArgs false
def gA : VT := .node 0 1 ⟨#[]⟩ []
def gB : VT := .node 5 7 ⟨#[]⟩ []
def gC : VT := .node 5 2 ⟨#[]⟩ []
def ra : RT := ⟨[97], [116], 5⟩
def rb : RT := ⟨[98], [116], 7⟩
theorem sort_ab : sortO [rb, ra] [] = some [ra, rb] := by rfl
theorem gA_ok : encErr gA = 0 := by
  have h1 : gA.right 1 = true := by simp [gA, VT.right_node, VT.rights_cons, VT.rights_nil, fitsB, emptyB, wr]; decide
  have h2 : gA.enc.length ≤ 16384 := by simp [gA, VT.enc, VT.encs, topOf, num, zig, var]
  exact (encErr_ok h1 (by omega)).1
theorem gB_ok : encErr gB = 0 := by
  have h1 : gB.right 1 = true := by simp [gB, VT.right_node, VT.rights_cons, VT.rights_nil, fitsB, emptyB, wr]; decide
  have h2 : gB.enc.length ≤ 16384 := by simp [gB, VT.enc, VT.encs, topOf, num, zig, var]
  exact (encErr_ok h1 (by omega)).1
theorem gD_ok : encErr (dirV [ra, rb]) = 0 := by
  have h1 : (dirV [ra, rb]).right 1 = true := by simp [dirV, tupV, strV, refV, noneV, ra, rb, bytes, VT.right_node, VT.rights_cons, VT.rights_nil, fitsB, emptyB, wr]; decide
  have h2 : (dirV [ra, rb]).enc.length ≤ 16384 := by simp [dirV, tupV, strV, refV, noneV, ra, rb, bytes, VT.enc, VT.encs, topOf, str, num, zig, var]
  exact (encErr_ok h1 (by omega)).1
def gG : GT := ⟨[⟨[97], [116], 1⟩, ⟨[98], [116], 2⟩], [gC, gA]⟩
theorem make_ab : makeT [rb, ra] [(7, gA), (5, gB)] = (gG, 0) := by
  have hd : dirT [rb, ra] = (dirV [ra, rb], 0) := by
    unfold dirT
    rw [if_neg (by decide), sort_ab]
    simp only [gD_ok, if_true]
  have hb : bfs [(7, gA), (5, gB)] 3 0 ([ra, rb].map RT.id |>.foldl meetT []) [] = some ([5, 7], [gB, gA]) := by
    simp [bfs, meetT, ra, rb, findO, gA, gB, VT.refs_node, VT.refsL_nil]
  unfold makeT
  rw [hd, if_neg (by decide), if_neg (by simp [gA_ok, gB_ok]), sort_ab]
  simp only [List.length_cons, List.length_nil, hb]
  have e1 : numOf [5, 7] 5 = 1 := by rfl
  have e2 : numOf [5, 7] 7 = 2 := by rfl
  have m1 : gA.move (firstP (pairs [5, 7])) = some gA := by rfl
  have m2 : gB.move (firstP (pairs [5, 7])) = some gC := by rfl
  simp only [List.map_cons, List.map_nil, m1, m2, ra, rb, e1, e2, Option.getD_some, gG]
theorem text_ab (F : Nat → List UInt8) : graphTxt F gG = [97, 58, 116, 61, 64, 49, 10, 98, 58, 116, 61, 64, 50, 10, 64, 49, 61, 64, 50, 10, 64, 50, 61, 49, 10] := by
  simp [graphTxt, gG, rLines, rLine, oLines, oLine, gC, gA, VT.txt, VT.txts, topTxt, Lib.itoa, Lib.decDigits, wr, Lib.join, List.intercalate]
theorem text_len (F : Nat → List UInt8) : ∀ t ∈ gG.objs, (t.txt F).length ≤ 1000000 := by
  intro t ht
  simp only [gG, List.mem_cons, List.not_mem_nil, or_false] at ht
  rcases ht with rfl | rfl
  · simp [gC, VT.txt, VT.txts, topTxt, Lib.itoa, Lib.decDigits, wr, Lib.join, List.intercalate]
  · simp [gA, VT.txt, VT.txts, topTxt, Lib.itoa, Lib.decDigits, wr, Lib.join, List.intercalate]
end Gr
end Go.Proofs.YtenikoecnfbfoaaGreatDoor
/- Layer 8: the document's Text of a graph. -/
namespace Go.Proofs.YtenikoecnfbfoaaGreatDoor
open Go.RowKit
set_option linter.unusedVariables false
set_option linter.unusedSimpArgs false
open Gr (RT GT)
theorem rJoin (A n t c : List UInt8) : bytes A ++ bytes n ++ ⟨#[58]⟩ ++ bytes t ++ ⟨#[61, 64]⟩ ++ bytes c ++ ⟨#[10]⟩ = bytes (A ++ (n ++ [58] ++ t ++ [61, 64] ++ c ++ [10])) := by
  apply Go.WideShapes.bytes_inj
  simp [bytes]
theorem oJoinR (A a c : List UInt8) : bytes A ++ ⟨#[64]⟩ ++ bytes a ++ ⟨#[61]⟩ ++ bytes c ++ ⟨#[10]⟩ = bytes (A ++ ([64] ++ a ++ [61] ++ c ++ [10])) := by
  apply Go.WideShapes.bytes_inj
  simp [bytes]
set_option maxRecDepth 100000 in
set_option maxHeartbeats 8000000 in
theorem refGraphText_any (F : Nat → List UInt8) (w : World) (vr vo : Value) (roots : List RT) (objs : List VT) (hr : RtAt w vr roots) (ho : VsAt w vo objs) (hl : roots.length ≤ 1000000) (hlo : objs.length ≤ 1000000)
    (hgd : ∀ r ∈ roots, r.name.length ≤ 1000 ∧ r.typ.length ≤ 1000) (hlen : ∀ t ∈ objs, (t.txt F).length ≤ 1000000)
    (hV : ∀ t ∈ objs, ∀ (v : Value) (W : World), Below w.heap.size w W → ValIs w (fun b => b < w.heap.size) t v → Calls Tryz.prog 39 #[v] W fun e w' => e = .returned (.string (bytes (t.txt F))) ∧ Below W.heap.size W w') :
    Calls Tryz.prog 15 #[.agg #[vr, vo]] w fun e w' => e = .returned (.string (bytes (graphTxt F ⟨roots, objs⟩))) ∧ Below w.heap.size w w' := by
  obtain ⟨ao, cap, rfl, hcc⟩ := hr.cells
  obtain ⟨bo, capo, rfl, h1, h2, h3, hk⟩ := ho
  have HCC := Lib.hid hcc
  have HK := Lib.hid hk
  have HGD := Lib.hid hgd
  have HLEN := Lib.hid hlen
  have HV := Lib.hid hV
  have hl2 : (roots.length : Int) ≤ 1000000 := by omega
  have hl3 : (objs.length : Int) ≤ 1000000 := by omega
  clear hr hcc hk hgd hlen hV h1 h2 h3
  go_enter Tryz.func15, Tryz.ntmps15
  go_wp2
  go_loopg [3, 4] roots.length (fun gk s3 s11 wx => TxI (w.alloc (.cells #[.slice ao roots.length cap, .slice bo objs.length capo] 37)) roots gk s3 s11 wx)
  case atStart => exact ⟨0, rfl, by omega, rfl, Below.refl _ _⟩
  case round =>
    rename World => wx
    obtain ⟨i, rfl, hi, rfl, hb⟩ := hrel
    have HI := Lib.hid hi
    have HB := Lib.hid hb
    have i0 : (0 : Int) ≤ (i : Int) := by omega
    have hb0 := hb.block w.heap.size (by simp)
    rw [World.alloc_heap_new] at hb0
    have g0 : wx.cell? ⟨w.heap.size, 0, none⟩ = some (.slice ao roots.length cap) := by simp [World.cell?, hb0]
    have g1 : wx.cell? ⟨w.heap.size, 1, none⟩ = some (.slice bo objs.length capo) := by simp [World.cell?, hb0]
    have gs : w.heap.size < wx.heap.size := by have := hb.size; simp at this; omega
    have HGS := Lib.hid gs
    have HG0 := Lib.hid g0
    have HG1 := Lib.hid g1
    clear gs hb0
    by_cases hlt : i < roots.length
    · have i1 : (i : Int) < (roots.length : Int) := by omega
      obtain ⟨r, hr⟩ : ∃ r, roots[i]? = some r := ⟨_, List.getElem?_eq_getElem hlt⟩
      obtain ⟨b, off, rfl, hbl, d0, d1, d2⟩ := HCC.out i r hr
      have hgr := HGD.out r (List.mem_of_getElem? hr)
      have HBW : Hid (Below w.heap.size w wx) := ((Below.refl _ _).alloc (Nat.le_refl _) _).trans (hb.mono (by simp))
      have HBL := Lib.hid hbl
      have c0 : wx.cell? ⟨b, off + i * 3, none⟩ = some (.string (bytes r.name)) := (HBW.out.cell (p := ⟨b, off + i * 3, none⟩) hbl).trans d0
      have c1 : wx.cell? ⟨b, off + i * 3 + 1, none⟩ = some (.string (bytes r.typ)) := (HBW.out.cell (p := ⟨b, off + i * 3 + 1, none⟩) hbl).trans d1
      have c2 : wx.cell? ⟨b, off + i * 3 + 2, none⟩ = some (.int .i64 r.id) := (HBW.out.cell (p := ⟨b, off + i * 3 + 2, none⟩) hbl).trans d2
      have HR := Lib.hid hr
      have HLT := Lib.hid hlt
      have HNT := Lib.hid (rLines_take hr)
      have HLEN3 : Hid ((rLines (roots.take i)).length ≤ 3000000000) := by
        have h5 := rLines_len (roots.take i) fun x hx => HGD.out x (List.mem_of_mem_take hx)
        have h6 : (roots.take i).length ≤ 1000000 := by rw [List.length_take]; omega
        show _ ≤ _
        omega
      obtain ⟨acc, hacc⟩ : ∃ a, rLines (roots.take i) = a := ⟨_, rfl⟩
      rw [hacc] at HNT HLEN3 ⊢
      have HN := Lib.hid hgr
      have HI3 := Lib.hid (itoa_wr_len r.id)
      clear d0 d1 d2 hbl hr hlt hb hi hgr hacc
      have hs1 : (bytes r.name).size ≤ 1000 := by rw [bytes_size]; exact HN.out.1
      have hs2 : (bytes r.typ).size ≤ 1000 := by rw [bytes_size]; exact HN.out.2
      have hs3 : (bytes (Lib.itoa (wr r.id))).size ≤ 21 := by rw [bytes_size]; exact HI3.out
      have hs4 : (bytes acc).size ≤ 3000000000 := by rw [bytes_size]; exact HLEN3.out
      have HID := fun W => refText_any r.id W
      have HFIN : Hid (bytes acc ++ bytes r.name ++ ⟨#[58]⟩ ++ bytes r.typ ++ ⟨#[61, 64]⟩ ++ bytes (Lib.itoa (wr r.id)) ++ ⟨#[10]⟩ = bytes (rLines (roots.take (i + 1)))) := by
        rw [HNT.out]
        exact rJoin _ _ _ _
      obtain ⟨nm, hnm⟩ : ∃ x, bytes r.name = x := ⟨_, rfl⟩
      obtain ⟨ty, hty⟩ : ∃ x, bytes r.typ = x := ⟨_, rfl⟩
      obtain ⟨it, hit⟩ : ∃ x, bytes (Lib.itoa (wr r.id)) = x := ⟨_, rfl⟩
      obtain ⟨ac, hac⟩ : ∃ x, bytes acc = x := ⟨_, rfl⟩
      rw [hnm] at c0 hs1 HFIN
      rw [hty] at c1 hs2 HFIN
      rw [hit] at hs3 HFIN
      rw [hac] at hs4 HFIN ⊢
      simp only [hit] at HID
      have HID' := Lib.hid HID
      have HC := Lib.hid (And.intro c0 (And.intro c1 c2))
      clear HID hnm hty hit hac
      have HS : Hid (∀ W, Below wx.heap.size wx W → W.cell? ⟨w.heap.size, 0, none⟩ = some (.slice (some ⟨b, off, none⟩) roots.length cap) ∧ W.cell? ⟨b, off + i * 3, none⟩ = some (.string nm) ∧ W.cell? ⟨b, off + i * 3 + 1, none⟩ = some (.string ty) ∧ W.cell? ⟨b, off + i * 3 + 2, none⟩ = some (.int .i64 r.id)) := fun W hW =>
        have hbx : b < wx.heap.size := Nat.lt_trans HBL.out HGS.out
        ⟨(hW.cell (p := ⟨w.heap.size, 0, none⟩) HGS.out).trans HG0.out, (hW.cell (p := ⟨b, off + i * 3, none⟩) hbx).trans HC.out.1, (hW.cell (p := ⟨b, off + i * 3 + 1, none⟩) hbx).trans HC.out.2.1, (hW.cell (p := ⟨b, off + i * 3 + 2, none⟩) hbx).trans HC.out.2.2⟩
      have q1 : ¬ 9223372036854775807 < ac.size + nm.size := by omega
      have q2 : ¬ 9223372036854775807 < ac.size + nm.size + 1 := by omega
      have q3 : ¬ 9223372036854775807 < ac.size + nm.size + 1 + ty.size := by omega
      have q4 : ¬ 9223372036854775807 < ac.size + nm.size + 1 + ty.size + 2 := by omega
      have q5 : ¬ 9223372036854775807 < ac.size + nm.size + 1 + ty.size + 2 + it.size := by omega
      have q6 : ¬ 9223372036854775807 < ac.size + nm.size + 1 + ty.size + 2 + it.size + 1 := by omega
      clear hs1 hs2 hs3 hs4
      go_wp2
      go_region_held3 (fun w' => w'.cell? ⟨w.heap.size, 0, none⟩ = some (.slice (some ⟨b, off, none⟩) roots.length cap) ∧ w'.cell? ⟨b, off + i * 3, none⟩ = some (.string nm) ∧ w'.cell? ⟨b, off + i * 3 + 1, none⟩ = some (.string ty) ∧ w'.cell? ⟨b, off + i * 3 + 2, none⟩ = some (.int .i64 r.id))
        (first | exact HS.out _ (Below.refl _ _).drew | exact HS.out _ (Below.refl _ _) | exact HS.out _ HB7.out)
        (first | (go_at_call 38; refine (HID'.out _).mono ?_; rintro e w7 ⟨rfl, hb7⟩; have HB7 := Lib.hid ((Below.refl _ _).drew.trans hb7); clear hb7))
      go_wp2
      go_roundg (gk - 1)
      case measure => have := HI.out; have := HLT.out; omega
      case rel => exact ⟨i + 1, by go_num, by have := HI.out; have := HLT.out; omega, by rw [← HFIN.out]; try rfl, HB.out.trans (HB7.out.mono HB.out.size)⟩
    · have i1 : ¬ (i : Int) < (roots.length : Int) := by omega
      have hz : roots.take i = roots := List.take_of_length_le (by omega)
      rw [hz]
      have HPRE : Hid ((rLines roots).length ≤ 3000000000) := by
        have h5 := rLines_len roots HGD.out
        show _ ≤ _
        omega
      obtain ⟨pre, hpre⟩ : ∃ a, rLines roots = a := ⟨_, rfl⟩
      rw [hpre] at HPRE ⊢
      have HP := Lib.hid hpre
      clear hz hi hlt hpre hb
      go_wp2
      go_loopg [3, 5] objs.length (fun gk s3 s33 wy => TxO F wx pre objs gk s3 s33 wy)
      case atStart => exact ⟨0, rfl, by omega, by simp [oLines], Below.refl _ _⟩
      case round =>
        rename World => wy
        obtain ⟨i, rfl, hi, rfl, hb⟩ := hrel
        have HI := Lib.hid hi
        have HB2 := Lib.hid hb
        have i0 : (0 : Int) ≤ (i : Int) := by omega
        clear g0 g1
        have g1 : wy.cell? ⟨w.heap.size, 1, none⟩ = some (.slice bo objs.length capo) := (hb.cell (p := ⟨w.heap.size, 1, none⟩) HGS.out).trans HG1.out
        by_cases hlt : i < objs.length
        · have i1 : (i : Int) < (objs.length : Int) := by omega
          obtain ⟨t, ht⟩ : ∃ t, objs[i]? = some t := ⟨_, List.getElem?_eq_getElem hlt⟩
          obtain ⟨b, off, _, _, _, _, rfl, hbl, _⟩ := HK.out.get ht
          obtain ⟨_, aok, capk, d0, d1, d2, d3, hv⟩ := HK.out.cells ht
          unfold vval at hv
          have htl := HLEN.out t (List.mem_of_getElem? ht)
          have HBW : Hid (Below w.heap.size w wy) := (((Below.refl _ _).alloc (Nat.le_refl _) _).trans (HB.out.mono (by simp))).trans (hb.mono (Nat.le_of_lt HGS.out))
          simp only [Nat.zero_add] at d0 d1 d2 d3
          have HBL := Lib.hid hbl
          have HD := Lib.hid (And.intro d0 (And.intro d1 (And.intro d2 d3)))
          have HVT : Hid (∀ W, Below w.heap.size w W → Calls Tryz.prog 39 #[.agg #[.int .i64 t.kind, .int .i64 t.num, .string t.text, .slice aok t.kids.length capk]] W fun e w' => e = .returned (.string (bytes (t.txt F))) ∧ Below W.heap.size W w') := fun W hW => HV.out t (List.mem_of_getElem? ht) _ W hW hv
          have HNT := Lib.hid (oLines_take (F := F) ht)
          have HL4 : Hid ((oLines F 0 (objs.take i)).length ≤ 1000050000000) := by
            have h5 := oLines_len F (objs.take i) 0 fun x hx => HLEN.out x (List.mem_of_mem_take hx)
            have h6 : (objs.take i).length ≤ 1000000 := by rw [List.length_take]; omega
            show _ ≤ _
            omega
          have hs1 : (bytes (Lib.itoa (wr ((i : Int) + 1)))).size ≤ 21 := by rw [bytes_size]; exact itoa_wr_len _
          have hs2 : (bytes (t.txt F)).size ≤ 1000000 := by rw [bytes_size]; exact htl
          have hs4 : (bytes (pre ++ oLines F 0 (objs.take i))).size ≤ 1100000000000 := by rw [bytes_size, List.length_append]; have := HL4.out; have := HPRE.out; omega
          have HID := fun W => refText_any ((i : Int) + 1) W
          have HFIN : Hid (bytes (pre ++ oLines F 0 (objs.take i)) ++ ⟨#[64]⟩ ++ bytes (Lib.itoa (wr ((i : Int) + 1))) ++ ⟨#[61]⟩ ++ bytes (t.txt F) ++ ⟨#[10]⟩ = bytes (pre ++ oLines F 0 (objs.take (i + 1)))) := by
            rw [HNT.out, ← List.append_assoc]
            unfold oLine
            exact oJoinR _ _ _
          obtain ⟨it, hit⟩ : ∃ x, bytes (Lib.itoa (wr ((i : Int) + 1))) = x := ⟨_, rfl⟩
          obtain ⟨tx, htx⟩ : ∃ x, bytes (t.txt F) = x := ⟨_, rfl⟩
          obtain ⟨ac, hac⟩ : ∃ x, bytes (pre ++ oLines F 0 (objs.take i)) = x := ⟨_, rfl⟩
          rw [hit] at hs1 HFIN
          rw [htx] at hs2 HFIN HVT
          rw [hac] at hs4 HFIN ⊢
          simp only [hit] at HID
          have HID' := Lib.hid HID
          have HLT := Lib.hid hlt
          have HG := Lib.hid g1
          clear HID hit htx hac d0 d1 d2 d3 hbl hv ht htl hlt hb hi
          have HS : Hid (∀ W, Below wy.heap.size wy W → W.cell? ⟨w.heap.size, 1, none⟩ = some (.slice (some ⟨b, off, none⟩) objs.length capo) ∧ W.cell? ⟨b, off + i * 4, none⟩ = some (.int .i64 t.kind) ∧ W.cell? ⟨b, off + i * 4 + 1, none⟩ = some (.int .i64 t.num) ∧ W.cell? ⟨b, off + i * 4 + 2, none⟩ = some (.string t.text) ∧ W.cell? ⟨b, off + i * 4 + 3, none⟩ = some (.slice aok t.kids.length capk)) := fun W hW =>
            have hwW : Below w.heap.size w W := HBW.out.trans (hW.mono HBW.out.size)
            ⟨(hW.cell (p := ⟨w.heap.size, 1, none⟩) (Nat.lt_of_lt_of_le HGS.out HB2.out.size)).trans HG.out, (hwW.cell (p := ⟨b, off + i * 4, none⟩) HBL.out).trans HD.out.1, (hwW.cell (p := ⟨b, off + i * 4 + 1, none⟩) HBL.out).trans HD.out.2.1, (hwW.cell (p := ⟨b, off + i * 4 + 2, none⟩) HBL.out).trans HD.out.2.2.1, (hwW.cell (p := ⟨b, off + i * 4 + 3, none⟩) HBL.out).trans HD.out.2.2.2⟩
          have HBA : Hid (∀ W, Below wy.heap.size wy W → Below w.heap.size w W) := fun W hW => HBW.out.trans (hW.mono HBW.out.size)
          have q1 : ¬ 9223372036854775807 < ac.size + 1 := by omega
          have q2 : ¬ 9223372036854775807 < ac.size + 1 + it.size := by omega
          have q3 : ¬ 9223372036854775807 < ac.size + 1 + it.size + 1 := by omega
          have q4 : ¬ 9223372036854775807 < ac.size + 1 + it.size + 1 + tx.size := by omega
          have q5 : ¬ 9223372036854775807 < ac.size + 1 + it.size + 1 + tx.size + 1 := by omega
          have hw1 : IntKind.i64.wrap ((i : Int) + 1) = (i : Int) + 1 := by rw [IntKind.wrap_i64]; omega
          clear hs1 hs2 hs4
          go_wp2
          go_region_held3 (fun w' => w'.cell? ⟨w.heap.size, 1, none⟩ = some (.slice (some ⟨b, off, none⟩) objs.length capo) ∧ w'.cell? ⟨b, off + i * 4, none⟩ = some (.int .i64 t.kind) ∧ w'.cell? ⟨b, off + i * 4 + 1, none⟩ = some (.int .i64 t.num) ∧ w'.cell? ⟨b, off + i * 4 + 2, none⟩ = some (.string t.text) ∧ w'.cell? ⟨b, off + i * 4 + 3, none⟩ = some (.slice aok t.kids.length capk))
            (first | exact HS.out _ (Below.refl _ _).drew | exact HS.out _ (Below.refl _ _) | exact HS.out _ HB7.out | exact HS.out _ HB8.out)
            (first
              | (go_at_call 38; refine (HID'.out _).mono ?_; rintro e w7 ⟨rfl, hb7⟩; have HB7 := Lib.hid ((Below.refl _ _).drew.trans hb7); clear hb7)
              | (go_at_call 39; refine (HVT.out _ (HBA.out _ HB7.out)).mono ?_; rintro e w8 ⟨rfl, hb8⟩; have HB8 := Lib.hid (HB7.out.trans (hb8.mono HB7.out.size)); clear hb8))
          go_wp2
          go_roundg (gk - 1)
          case measure => have := HI.out; have := HLT.out; omega
          case rel => exact ⟨i + 1, by go_num, by have := HI.out; have := HLT.out; omega, by rw [← HFIN.out]; try rfl, HB2.out.trans (HB8.out.mono HB2.out.size)⟩
        · have i1 : ¬ (i : Int) < (objs.length : Int) := by omega
          have hz : objs.take i = objs := List.take_of_length_le (by omega)
          rw [hz]
          have HE : Hid (bytes (pre ++ oLines F 0 objs) = bytes (graphTxt F ⟨roots, objs⟩)) := by rw [← HP.out]; rfl
          clear hz hi hlt hb
          rw [HE.out]
          go_wp2
          go_ret
          exact ⟨rfl, (((Below.refl _ _).alloc (Nat.le_refl _) _).trans (HB.out.mono (by simp))).trans (HB2.out.mono (Nat.le_of_lt HGS.out))⟩
end Go.Proofs.YtenikoecnfbfoaaGreatDoor
/- Layer 8: the program's Same of graphs. -/
namespace Go.Proofs.YtenikoecnfbfoaaGreatDoor
open Go.RowKit
set_option linter.unusedVariables false
set_option linter.unusedSimpArgs false
open Gr (RT GT)
deriving instance DecidableEq for Gr.RT
theorem rt_eq_iff (x y : RT) : x = y ↔ x.name = y.name ∧ x.typ = y.typ ∧ x.id = y.id := by
  obtain ⟨a, b, c⟩ := x; obtain ⟨a', b', c'⟩ := y; simp
theorem bytes_toList (l : List UInt8) : (bytes l).toList = l := by
  rw [ByteArray.toList_eq]; simp [bytes]
theorem fields3 {fs : List Field} {S I : TypeId} (h : fs.map (fun f => (decide (f.name ≠ "_"), f.type, f.offset)) = [(true, S, 0), (true, S, 1), (true, I, 2)]) : ∃ f0 f1 f2 : Field, fs = [f0, f1, f2] ∧ (f0.name ≠ "_" ∧ f0.type = S ∧ f0.offset = 0) ∧ (f1.name ≠ "_" ∧ f1.type = S ∧ f1.offset = 1) ∧ (f2.name ≠ "_" ∧ f2.type = I ∧ f2.offset = 2) := by
  have hl : fs.length = 3 := by have := congrArg List.length h; simpa using this
  obtain ⟨f0, f1, f2, rfl⟩ : ∃ f0 f1 f2, fs = [f0, f1, f2] := by
    cases fs with
    | nil => cases hl
    | cons f0 fs => cases fs with
      | nil => cases hl
      | cons f1 fs => cases fs with
        | nil => cases hl
        | cons f2 fs => cases fs with
          | nil => exact ⟨f0, f1, f2, rfl⟩
          | cons f3 fs => simp at hl
  simp only [List.map_cons, List.map_nil, List.cons.injEq, Prod.mk.injEq, decide_eq_true_eq, and_true] at h
  exact ⟨f0, f1, f2, rfl, h.1, h.2.1, h.2.2⟩
theorem rt_eqF (x y : RT) (w : World) {fs : List Field} (h : fs.map (fun f => (decide (f.name ≠ "_"), f.type, f.offset)) = [(true, 9, 0), (true, 9, 1), (true, 3, 2)]) : Sem.run Tryz.prog (Op.eqFields 9999 (rcs x).toArray (rcs y).toArray fs) w = .ok (decide (x = y)) w := by
  obtain ⟨f0, f1, f2, rfl, ⟨a0, b0, c0⟩, ⟨a1, b1, c1⟩, ⟨a2, b2, c2⟩⟩ := fields3 h
  have hs := fun (a b : ByteArray) => run_equalIn_string (P := Tryz.prog) w 9998 9 a b Tryz.underlying9
  have hi := fun (a b : Int) => run_equalIn_int (P := Tryz.prog) w 9998 3 .i64 _ a b Tryz.underlying3
  have k1 : Tryz.prog.plainKey 9 = true := by kernel_rfl
  have k2 : Tryz.prog.plainKey 3 = true := by kernel_rfl
  have P0 : ∀ r : RT, Sem.run Tryz.prog (part 9 (rcs r).toArray 0) w = .ok (.string (bytes r.name)) w := fun r => run_part_plain w k1 rfl
  have P1 : ∀ r : RT, Sem.run Tryz.prog (part 9 (rcs r).toArray 1) w = .ok (.string (bytes r.typ)) w := fun r => run_part_plain w k1 rfl
  have P2 : ∀ r : RT, Sem.run Tryz.prog (part 3 (rcs r).toArray 2) w = .ok (.int .i64 r.id) w := fun r => run_part_plain w k2 rfl
  simp only [Op.eqFields, a0, a1, a2, b0, b1, b2, c0, c1, c2, ne_eq, not_false_eq_true, if_true, Sem.run_bind, P0, P1, P2, Result.andThen_ok, hs, hi, bytes_toList]
  by_cases h0 : x.name = y.name <;> by_cases h1 : x.typ = y.typ <;> by_cases h2 : x.id = y.id <;> simp [h0, h1, h2, rt_eq_iff, hs, hi, P0, P1, P2, bytes_toList]
theorem rt_neq (x y : RT) (w : World) : Sem.run Tryz.prog (binOp .neq 82 (.agg (rcs x).toArray) (.agg (rcs y).toArray)) w = .ok (.bool (!(decide (x = y)))) w := by
  rw [run_neq_struct, run_equalIn_agg w 9999 _ _ _ (by kernel_rfl) (by kernel_rfl), rt_eqF x y w (by kernel_rfl)]
  rfl
theorem rt_guard (op : BinOp) (a b : Operand) (x y : RT) (w : World) : Sem.run Tryz.prog (eqGuard op 82 a b (.agg (rcs x).toArray) (.agg (rcs y).toArray)) w = .ok () w := run_eqGuard_agg w op _ a b _ _ (by kernel_rfl)
theorem rrt_neq (x y : RT) (w : World) : Sem.run Tryz.prog (binOp .neq 66 (.agg (rcs x).toArray) (.agg (rcs y).toArray)) w = .ok (.bool (!(decide (x = y)))) w := by
  rw [run_neq_struct, run_equalIn_agg w 9999 _ _ _ (by kernel_rfl) (by kernel_rfl), rt_eqF x y w (by kernel_rfl)]
  rfl
theorem rrt_guard (op : BinOp) (a b : Operand) (x y : RT) (w : World) : Sem.run Tryz.prog (eqGuard op 66 a b (.agg (rcs x).toArray) (.agg (rcs y).toArray)) w = .ok () w := run_eqGuard_agg w op _ a b _ _ (by kernel_rfl)
def EqRI (w : World) (la lb : List RT) (k : Nat) (s13 : Value) (wx : World) : Prop :=
  ∃ i : Nat, s13 = .int .i64 (i : Int) ∧ i + k = la.length ∧ decide (la = lb) = decide (la.drop i = lb.drop i) ∧ Below w.heap.size w wx
theorem drop_eq_step {la lb : List RT} {i : Nat} {x y : RT} (hx : la[i]? = some x) (hy : lb[i]? = some y) : decide (la.drop i = lb.drop i) = (decide (x = y) && decide (la.drop (i + 1) = lb.drop (i + 1))) := by
  have e1 : la.drop i = x :: la.drop (i + 1) := by rw [List.drop_eq_getElem?_toList_append, hx]; rfl
  have e2 : lb.drop i = y :: lb.drop (i + 1) := by rw [List.drop_eq_getElem?_toList_append, hy]; rfl
  rw [e1, e2]
  simp [Bool.decide_and]
set_option maxRecDepth 100000 in
set_option maxHeartbeats 4000000 in
theorem eqRoots_any (w : World) (va vb : Value) (la lb : List RT) (ha : RtAt w va la) (hb : RtAt w vb lb) (hl : la.length ≤ 1000000) (hl2 : lb.length ≤ 1000000) :
    Calls Tryz.prog 40 #[va, vb] w fun e w' => e = .returned (.bool (decide (la = lb))) ∧ Below w.heap.size w w' := by
  obtain ⟨ao, ca, rfl, hca⟩ := ha.cells
  obtain ⟨bo, cb, rfl, hcb⟩ := hb.cells
  have HCA := Lib.hid hca
  have HCB := Lib.hid hcb
  clear ha hb hca hcb
  by_cases hlen : la.length = lb.length
  · have hlq : ((la.length : Int) != (lb.length : Int)) = false := by simp [hlen]
    have HLEN := Lib.hid hlen
    have hl3 : (la.length : Int) ≤ 1000000 := by omega
    clear hlen hl hl2
    go_enter Tryz.func40, Tryz.ntmps40
    go_wp2
    go_loopg [13] la.length (fun gk s13 wx => EqRI w la lb gk s13 wx)
    case atStart => exact ⟨0, rfl, by omega, rfl, Below.refl _ _⟩
    case round =>
      rename World => wx
      obtain ⟨i, rfl, hi, hr, hb⟩ := hrel
      have HI := Lib.hid hi
      have HB := Lib.hid hb
      have HR := Lib.hid hr
      have i0 : (0 : Int) ≤ (i : Int) := by omega
      by_cases hlt : i < la.length
      · have i1 : (i : Int) < (la.length : Int) := by omega
        have i2 : (i : Int) < (lb.length : Int) := by have := HLEN.out; omega
        obtain ⟨x, hx⟩ : ∃ r, la[i]? = some r := ⟨_, List.getElem?_eq_getElem hlt⟩
        obtain ⟨y, hy⟩ : ∃ r, lb[i]? = some r := ⟨_, List.getElem?_eq_getElem (by have := HLEN.out; omega)⟩
        obtain ⟨b, off, rfl, hbl, d0, d1, d2⟩ := HCA.out i x hx
        obtain ⟨b', off', rfl, hbl', e0, e1, e2⟩ := HCB.out i y hy
        replace d0 := (hb.cell (p := ⟨b, off + i * 3, none⟩) hbl).trans d0
        replace d1 := (hb.cell (p := ⟨b, off + i * 3 + 1, none⟩) hbl).trans d1
        replace d2 := (hb.cell (p := ⟨b, off + i * 3 + 2, none⟩) hbl).trans d2
        replace e0 := (hb.cell (p := ⟨b', off' + i * 3, none⟩) hbl').trans e0
        replace e1 := (hb.cell (p := ⟨b', off' + i * 3 + 1, none⟩) hbl').trans e1
        replace e2 := (hb.cell (p := ⟨b', off' + i * 3 + 2, none⟩) hbl').trans e2
        have HD := Lib.hid (drop_eq_step hx hy)
        have hn : ∀ W, Sem.run Tryz.prog (binOp .neq 82 (.agg #[.string (bytes x.name), .string (bytes x.typ), .int .i64 x.id]) (.agg #[.string (bytes y.name), .string (bytes y.typ), .int .i64 y.id])) W = .ok (.bool (!(decide (x = y)))) W := fun W => rt_neq x y W
        have hg : ∀ (op : BinOp) (a b : Operand) W, Sem.run Tryz.prog (eqGuard op 82 a b (.agg #[.string (bytes x.name), .string (bytes x.typ), .int .i64 x.id]) (.agg #[.string (bytes y.name), .string (bytes y.typ), .int .i64 y.id])) W = .ok () W := fun op a b W => rt_guard op a b x y W
        have HLT := Lib.hid hlt
        clear hr hb hi hbl hbl' hx hy hlt
        generalize decide (x = y) = q at hn HD
        generalize bytes x.name = x0 at *
        generalize bytes x.typ = x1 at *
        generalize x.id = x2 at *
        generalize bytes y.name = y0 at *
        generalize bytes y.typ = y1 at *
        generalize y.id = y2 at *
        cases q
        · go_wp2
          go_quiet (fail)
          go_wp2
          go_ret
          refine ⟨ret_bool ?_, below_drewN HB.out _⟩
          rw [HR.out, HD.out, Bool.false_and]
        · go_wp2
          go_quiet (fail)
          go_wp2
          go_roundg (gk - 1)
          case measure => have := HI.out; have := HLT.out; omega
          case rel => exact ⟨i + 1, by go_num, by have := HI.out; have := HLT.out; omega, by rw [HR.out, HD.out, Bool.true_and], below_drewN HB.out _⟩
      · have i1 : ¬ (i : Int) < (la.length : Int) := by omega
        have hz : decide (la = lb) = true := by rw [hr, List.drop_of_length_le (by omega), List.drop_of_length_le (by have := HLEN.out; omega)]; rfl
        have HZ := Lib.hid hz
        clear hz hr hi hb hlt
        go_wp2
        go_ret
        exact ⟨ret_bool HZ.out.symm, HB.out⟩
  · have hlq : ((la.length : Int) != (lb.length : Int)) = true := by simp; omega
    have hs : decide (la = lb) = false := by simp; intro h; exact hlen (by rw [h])
    rw [hs]
    go_enter Tryz.func40, Tryz.ntmps40
    go_wp2
    go_ret
    exact ⟨rfl, Below.refl _ _⟩
theorem VsAt.below {w w' : World} {v : Value} {l : List VT} (h : VsAt w v l) (hb : Below w.heap.size w w') : VsAt w' v l := by
  obtain ⟨ao, cap, h1, h2, h3, h4, h5⟩ := h
  exact ⟨ao, cap, h1, h2, h3, h4, h5.keep (fun b hb' => Nat.lt_of_lt_of_le hb' hb.size) (fun p hp => hb.cell hp)⟩
set_option maxRecDepth 100000 in
/-- slices.EqualFunc with val.Same, of two rows of values. -/
theorem eqVals_any (w : World) (la lb : List VT) (va vb : Value) (ha : VsAt w va la) (hb : VsAt w vb lb) :
    Calls Tryz.prog 41 #[va, vb, .func (.func 42) #[] #[]] w fun e w' => e = .returned (.bool (VT.sames la lb)) ∧ Below w.heap.size w w' := by
  obtain ⟨ao, ca, rfl, a1, a2, _, ka⟩ := ha
  obtain ⟨bo, cb, rfl, b1, b2, _, kb⟩ := hb
  refine eqf_walk _ (fun _ _ => by rfl) la lb ao bo ca cb w a1 a2 b1 b2 ka kb ?_
  intro W i ta tb va vb hW hta htb hva hvb
  refine (same_walk ta.sz ta tb va vb W (fun b => b < w.heap.size) (Nat.le_refl _) (hva.below hW (fun b hb => hb)) (hvb.below hW (fun b hb => hb)) (fun b hb => Nat.lt_of_lt_of_le hb hW.size)).mono ?_
  rintro e w' ⟨rfl, hb⟩
  exact ⟨rfl, hW.trans (hb.mono hW.size)⟩
def graphSame (a b : GT) : Bool := decide (a.roots = b.roots) && VT.sames a.objs b.objs
set_option maxRecDepth 100000 in
set_option maxHeartbeats 4000000 in
theorem graphSame_any (w : World) (ra oa rb ob : Value) (A B : GT) (h1 : RtAt w ra A.roots) (h2 : VsAt w oa A.objs) (h3 : RtAt w rb B.roots) (h4 : VsAt w ob B.objs) (hl : A.roots.length ≤ 1000000) (hl2 : B.roots.length ≤ 1000000) :
    Calls Tryz.prog 16 #[.agg #[ra, oa], .agg #[rb, ob]] w fun e w' => e = .returned (.bool (graphSame A B)) ∧ Below w.heap.size w w' := by
  have HE : Hid (∀ W, Below w.heap.size w W → Calls Tryz.prog 40 #[ra, rb] W fun e w' => e = .returned (.bool (decide (A.roots = B.roots))) ∧ Below W.heap.size W w') := fun W hW => eqRoots_any W ra rb _ _ (h1.below hW) (h3.below hW) hl hl2
  have HF : Hid (∀ W, Below w.heap.size w W → Calls Tryz.prog 41 #[oa, ob, .func (.func 42) #[] #[]] W fun e w' => e = .returned (.bool (VT.sames A.objs B.objs)) ∧ Below W.heap.size W w') := fun W hW => eqVals_any W _ _ oa ob (h2.below hW) (h4.below hW)
  obtain ⟨a1, c1, rfl, _⟩ := h1.cells
  obtain ⟨a2, c2, rfl, _⟩ := h2
  obtain ⟨a3, c3, rfl, _⟩ := h3.cells
  obtain ⟨a4, c4, rfl, _⟩ := h4
  have hB2 : Hid (∀ o1 o2, Below w.heap.size w ((w.alloc o1).alloc o2)) := fun o1 o2 => ((Below.refl _ _).alloc (Nat.le_refl _) _).trans ((Below.refl _ _).alloc (by simp) _)
  have HKEEP : Hid (∀ (x0 x1 y0 y1 : Value) W, Below ((w.alloc (.cells #[x0, x1] 31)).alloc (.cells #[y0, y1] 31)).heap.size ((w.alloc (.cells #[x0, x1] 31)).alloc (.cells #[y0, y1] 31)) W → W.cell? ⟨w.heap.size, 1, none⟩ = some x1 ∧ W.cell? ⟨w.heap.size + 1, 1, none⟩ = some y1) := fun x0 x1 y0 y1 W hW => by
    obtain ⟨g1, g2, _, _⟩ := two_new w W _ _ _ _ hW
    exact ⟨by simp [World.cell?, g1], by simp [World.cell?, g2]⟩
  have HQ : Hid (graphSame A B = (decide (A.roots = B.roots) && VT.sames A.objs B.objs)) := rfl
  rw [HQ.out]
  clear h1 h3 hl hl2
  generalize decide (A.roots = B.roots) = q at HE ⊢
  cases q
  · go_enter Tryz.func16, Tryz.ntmps16
    go_wp2_with ((go_at_call 40; refine (HE.out _ (hB2.out _ _)).mono ?_; rintro e w7 ⟨rfl, hb7⟩; have HB7 := Lib.hid ((hB2.out _ _).trans (hb7.mono (by simp; omega))); obtain ⟨k1, k2⟩ := HKEEP.out _ _ _ _ _ hb7; clear hb7))
    go_ret
    exact ⟨rfl, HB7.out⟩
  · go_enter Tryz.func16, Tryz.ntmps16
    go_wp2_with (first
      | (go_at_call 40; refine (HE.out _ (hB2.out _ _)).mono ?_; rintro e w7 ⟨rfl, hb7⟩; have HB7 := Lib.hid ((hB2.out _ _).trans (hb7.mono (by simp; omega))); obtain ⟨k1, k2⟩ := HKEEP.out _ _ _ _ _ hb7; clear hb7)
      | (go_at_call 41; refine (HF.out _ HB7.out).mono ?_; rintro e w8 ⟨rfl, hb8⟩; have HB8 := Lib.hid (HB7.out.trans (hb8.mono HB7.out.size)); clear hb8))
    go_ret
    exact ⟨ret_bool (by simp), HB8.out⟩
end Go.Proofs.YtenikoecnfbfoaaGreatDoor
/- Layer 8: the small graph that every law looks at: the walk. -/
namespace Go.Proofs.YtenikoecnfbfoaaGreatDoor
open Go.RowKit
set_option linter.unusedVariables false
set_option linter.unusedSimpArgs false
open Gr (RT GT gA gB gC ra rb gG)
def noF : Nat → List UInt8 := fun _ => []
def obA : OB := ⟨7, 0, 1, ⟨#[]⟩, none, 0, 0⟩
def obB : OB := ⟨5, 5, 7, ⟨#[]⟩, none, 0, 0⟩
theorem obs_ab (w : World) (P : Nat → Prop) : ObsIs w P [obA, obB] [(7, gA), (5, gB)] := ⟨rfl, fun j x o hx ho => by
  match j, hx, ho with
  | 0, hx, ho => cases hx; cases ho; exact ⟨rfl, leaf_is w P 0 1 _ (by decide) (by decide) (sz_max _ (by decide)), by decide⟩
  | 1, hx, ho => cases hx; cases ho; exact ⟨rfl, leaf_is w P 5 7 _ (by decide) (by decide) (sz_max _ (by decide)), by decide⟩⟩
abbrev rootBox : Array Value := #[.string ⟨#[98]⟩, .string ⟨#[116]⟩, .int .i64 7, .string ⟨#[97]⟩, .string ⟨#[116]⟩, .int .i64 5]
abbrev objBox : Array Value := #[.int .i64 7, .int .i64 0, .int .i64 1, .string ⟨#[]⟩, .slice none 0 0, .int .i64 5, .int .i64 5, .int .i64 7, .string ⟨#[]⟩, .slice none 0 0]
theorem rt_ab (W : World) (b : Nat) (T : TypeId) (h : W.heap[b]? = some (.cells rootBox T (0, 0))) : RtAt W (.slice (some ⟨b, 0, none⟩) 2 2) [rb, ra] := by
  refine ⟨some ⟨b, 0, none⟩, 2, rfl, Nat.le_refl _, by unfold maxLen; omega, (fun e => by cases e), (fun b' off s e => by cases e; exact ⟨rfl, lt_of_block h⟩), fun j u hj => ⟨b, 0, rfl, ?_⟩⟩
  rw [Nat.zero_add]
  unfold World.cell?
  rw [h]
  show rootBox[j]? = some u
  rw [← Array.getElem?_toList]
  exact hj
theorem ob_ab (W : World) (b : Nat) (T : TypeId) (h : W.heap[b]? = some (.cells objBox T (0, 0))) : ObAt W (.slice (some ⟨b, 0, none⟩) 2 2) [obA, obB] := by
  refine ⟨some ⟨b, 0, none⟩, 2, rfl, Nat.le_refl _, by unfold maxLen; omega, (fun e => by cases e), (fun b' off s e => by cases e; exact ⟨rfl, lt_of_block h⟩), fun j x hj => ⟨b, 0, rfl, ?_⟩⟩
  have c : ∀ k u, objBox[k]? = some u → W.cell? ⟨b, k, none⟩ = some u := fun k u hk => by unfold World.cell?; rw [h]; exact hk
  match j, hj with
  | 0, hj => cases hj; exact ⟨c 0 _ rfl, c 1 _ rfl, c 2 _ rfl, c 3 _ rfl, c 4 _ rfl⟩
  | 1, hj => cases hj; exact ⟨c 5 _ rfl, c 6 _ rfl, c 7 _ rfl, c 8 _ rfl, c 9 _ rfl⟩
/-- A graph that Make gave. -/
def GIs (W : World) (v : Value) (g : GT) : Prop := ∃ a1 c1 a2 c2, v = .agg #[.slice a1 g.roots.length c1, .slice a2 g.objs.length c2] ∧ RtAt W (.slice a1 g.roots.length c1) g.roots ∧ VsAt W (.slice a2 g.objs.length c2) g.objs
theorem MakeEnd.gis {w : World} {r : GT × Int} {e : Ending} {w' : World} (h : MakeEnd w r e w') : ∃ a1 c1 a2 c2, e = .returned (.tuple #[.agg #[.slice a1 r.1.roots.length c1, .slice a2 r.1.objs.length c2], .int .i64 r.2]) ∧ RtAt w' (.slice a1 r.1.roots.length c1) r.1.roots ∧ VsAt w' (.slice a2 r.1.objs.length c2) r.1.objs ∧ Below w.heap.size w w' := by
  obtain ⟨vr, vo, h1, h2, h3, h4⟩ := h
  obtain ⟨a1, c1, rfl, _⟩ := h2.cells
  have h3' := h3
  obtain ⟨a2, c2, rfl, _⟩ := h3
  exact ⟨a1, c1, a2, c2, h1, h2, h3', h4⟩
def TwoAb (W : World) (br bo : Nat) : Prop := (∃ T, W.heap[br]? = some (.cells rootBox T (0, 0))) ∧ ∃ T, W.heap[bo]? = some (.cells objBox T (0, 0))
theorem make_abW {W : World} {br bo : Nat} (h : TwoAb W br bo) : Calls Tryz.prog 8 #[.slice (some ⟨br, 0, none⟩) 2 2, .slice (some ⟨bo, 0, none⟩) 2 2] W (MakeEnd W (gG, 0)) := by
  obtain ⟨⟨T, h1⟩, U, h2⟩ := h
  have := make_any W _ _ [rb, ra] [obA, obB] [(7, gA), (5, gB)] (rt_ab W br T h1) (by simp) (fun r hr => by
      simp only [List.mem_cons, List.not_mem_nil, or_false] at hr
      rcases hr with rfl | rfl
      · exact ⟨by decide, by decide, by decide⟩
      · exact ⟨by decide, by decide, by decide⟩) (ob_ab W bo U h2) (obs_ab _ _) (by simp) (fun o ho => by
      simp only [List.mem_cons, List.not_mem_nil, or_false] at ho
      rcases ho with rfl | rfl
      · simp [gA, VT.sz, VT.szs]
      · simp [gB, VT.sz, VT.szs])
  rwa [Gr.make_ab] at this
theorem gG_text (w : World) (hT : Tab w) (t : VT) (ht : t ∈ gG.objs) (v : Value) (W : World) (hW : Below w.heap.size w W) (hv : ValIs w (fun b => b < w.heap.size) t v) : Calls Tryz.prog 37 #[v] W fun e w' => e = .returned (.string (bytes (t.txt noF))) ∧ Below W.heap.size W w' := by
  have h : ∀ (n : Int), t.right 1 = true ∧ t.noFl = true → Calls Tryz.prog 37 #[v] W fun e w' => e = .returned (.string (bytes (t.txt noF))) ∧ Below W.heap.size W w' := fun n h =>
    text_walk noF false w hT (fun h => by cases h) t.sz t v W _ 1 (Nat.le_refl _) h.1 (.inr h.2) (hv.below hW (fun b hb => hb)) (fun b hb => Nat.lt_of_lt_of_le hb hW.size) hW (Gr.text_len noF t ht)
  refine h 0 ?_
  simp only [gG, List.mem_cons, List.not_mem_nil, or_false] at ht
  rcases ht with rfl | rfl
  · simp [gC, VT.right_node, VT.rights_cons, VT.rights_nil, fitsB, emptyB, wr, VT.noFl, VT.noFls]; decide
  · simp [gA, VT.right_node, VT.rights_cons, VT.rights_nil, fitsB, emptyB, wr, VT.noFl, VT.noFls]; decide
theorem text_abW {W : World} {vr vo : Value} (hT : Tab W) (hr : RtAt W vr gG.roots) (ho : VsAt W vo gG.objs) : Calls Tryz.prog 14 #[.agg #[vr, vo]] W fun e w' => e = .returned (.string ⟨#[97, 58, 116, 61, 64, 49, 10, 98, 58, 116, 61, 64, 50, 10, 64, 49, 61, 64, 50, 10, 64, 50, 61, 49, 10]⟩) ∧ Below W.heap.size W w' := by
  have := graphText_any noF W vr vo gG.roots gG.objs hT hr ho (by decide) (by decide) (by decide) (Gr.text_len noF) (gG_text W hT)
  have e : bytes (graphTxt noF ⟨gG.roots, gG.objs⟩) = ⟨#[97, 58, 116, 61, 64, 49, 10, 98, 58, 116, 61, 64, 50, 10, 64, 49, 61, 64, 50, 10, 64, 50, 61, 49, 10]⟩ := by
    have := Gr.text_ab noF
    rw [show (⟨gG.roots, gG.objs⟩ : GT) = gG from rfl, this]
    rfl
  rwa [e] at this
set_option maxRecDepth 100000 in
set_option maxHeartbeats 4000000 in
theorem graphs_any (w : World) (hT : Tab w) : Calls Tryz.prog 11 #[] w fun e w' => e = .returned (.bool true) ∧ Below w.heap.size w w' := by
  have HT := Lib.hid hT
  clear hT
  go_enter Tryz.func11, Tryz.ntmps11
  have hab : TwoAb ((w.alloc (.cells rootBox 82)).alloc (.cells objBox 49)) w.heap.size (w.heap.size + 1) :=
    ⟨⟨_, (Below.heap_alloc _ _ _ (by simp)).trans (World.alloc_heap_new _ _)⟩, _, by simpa using World.alloc_heap_new (w.alloc (.cells rootBox 82)) (.cells objBox 49)⟩
  have HM := Lib.hid (make_abW hab)
  have HB := Lib.hid (((Below.refl w.heap.size w).alloc (Nat.le_refl _) (.cells rootBox 82)).trans ((Below.refl _ _).alloc (by simp) (.cells objBox 49)))
  have HSZ : Hid (((w.alloc (.cells rootBox 82)).alloc (.cells objBox 49)).heap.size = w.heap.size + 2) := by show _ = _; simp
  clear hab
  go_wp2_with (first
    | (go_at_call 8; refine HM.out.mono ?_; rintro e w1 h1; obtain ⟨a1, c1, a2, c2, rfl, hr, ho, hb⟩ := h1.gis; dsimp only [gG, List.length_cons, List.length_nil]; have HR := Lib.hid hr; have HO := Lib.hid ho; have HB1 := Lib.hid (HB.out.trans (hb.mono (by rw [HSZ.out]; omega))); clear h1 hr ho hb)
    | (go_at_call 14; refine (text_abW ((HT.out.below HB1.out).below ((Below.refl _ _).alloc (Nat.le_refl _) _)) (HR.out.below ((Below.refl _ _).alloc (Nat.le_refl _) _)) (HO.out.below ((Below.refl _ _).alloc (Nat.le_refl _) _))).mono ?_; rintro e w2 ⟨rfl, hb2⟩; have HB2 := Lib.hid (HB1.out.trans (((Below.refl _ _).alloc (Nat.le_refl _) _).trans (hb2.mono (by simp)) |>.mono HB1.out.size)); clear hb2))
  go_ret
  exact ⟨rfl, HB2.out⟩
end Go.Proofs.YtenikoecnfbfoaaGreatDoor
/- Layer 8: what few gives, handed on. -/
namespace Go.Proofs.YtenikoecnfbfoaaGreatDoor
open Go.RowKit
set_option linter.unusedVariables false
set_option linter.unusedSimpArgs false
open Gr (RT GT makeT)
/-- few's results, made into a graph. -/
theorem RtIn.wf {w : World} {v : Value} {l : List RT} (h : RtIn w v l) : ∀ r ∈ l, (Lit.int .i64 r.id).wf = true := fun r hr => by
  obtain ⟨i, hi⟩ := List.getElem?_of_mem hr
  obtain ⟨_, _, _, _, h⟩ := h
  obtain ⟨_, _, _, _, _, _, _, hw⟩ := h i r hi
  exact hw
theorem fewR_gd {l : List RT} (h : ∀ r ∈ l, (Lit.int .i64 r.id).wf = true) : ∀ r ∈ fewR l, r.name.length < 2000 ∧ r.typ.length < 2000 ∧ Gd r := fun r hr => by
  unfold fewR at hr
  obtain ⟨h1, h2⟩ := List.mem_filter.1 hr
  simp only [keepR, Bool.and_eq_true, decide_eq_true_eq] at h2
  exact ⟨h2.1, h2.2, by omega, by omega, h r (List.mem_of_mem_take h1)⟩
theorem fewO_tm (o : List (Int × VT)) : (fewO o).map tmO = fewO o := by
  unfold fewO
  rw [List.map_map]
  apply List.map_congr_left
  intro x _
  simp only [Function.comp_apply, tmO, VT.tame_tame]
namespace VT
mutual
theorem tame_pos : ∀ (t : VT) (d left : Int), 1 ≤ left → 0 ≤ (tame t d left).2
  | node k n s l, d, left, h => by
    rw [tame]
    exact tames_pos l 12 d (left - 1) (by omega)
theorem tames_pos : ∀ (l : List VT) (m : Nat) (d left : Int), 0 ≤ left → 0 ≤ (tames l m d left).2
  | [], m, d, left, h => by rw [tames]; exact h
  | t :: ts, m, d, left, h => by
    rw [tames]
    split
    · rename_i hc
      exact tames_pos ts (m - 1) d _ (tame_pos t (d - 1) left (by omega))
    · exact h
end
end VT
theorem tame_small (t : VT) (d left : Int) (h : 1 ≤ left) : ((t.tame d left).1.sz : Int) ≤ left := by
  have h1 := VT.tame_sz t d left
  have h2 := VT.tame_pos t d left h
  omega
theorem fewO_sz (o : List (Int × VT)) : ∀ x ∈ fewO o, x.2.sz ≤ 100 := fun x hx => by
  unfold fewO at hx
  obtain ⟨y, _, rfl⟩ := List.mem_map.1 hx
  have := tame_small y.2 200 100 (by decide)
  simp only [tmO]; omega
theorem make_few {W : World} {vr vo : Value} {l : List RT} {o : List (Int × VT)} (hw : ∀ r ∈ l, (Lit.int .i64 r.id).wf = true) (hr : RtAt W vr (fewR l)) {N : Nat} {T : TypeId} (ho : OwRow T W N vo (fewO o)) : Calls Tryz.prog 8 #[vr, vo] W (MakeEnd W (makeT (fewR l) (fewO o))) := by
  obtain ⟨obs, h1, h2⟩ := ho.at_
  exact make_any W vr vo (fewR l) obs (fewO o) hr (by have := fewR_len l; omega) (fun r hr => (fewR_gd hw r hr).2.2) h1 h2 (by have := fewO_len o; omega) (fun x hx => by have := fewO_sz o x hx; omega)
def TrEnd (w : World) (l : List RT) (e : Ending) (w' : World) : Prop := ∃ v, e = .returned v ∧ RtAt w' v (fewR l) ∧ Below w.heap.size w w'
theorem toRoots_few {W : World} {v : Value} {l : List RT} (h : RtAt W v (fewR l)) : Calls Tryz.prog 9 #[v] W (TrEnd W l) :=
  (toRoots_any W v _ h (by have := fewR_len l; omega)).mono fun e w' ⟨v', h1, h2, h3⟩ => ⟨v', h1, h2.at_, h3⟩
def ToEnd (w : World) (o : List (Int × VT)) (e : Ending) (w' : World) : Prop := ∃ v, e = .returned v ∧ OwRow 49 w' w.heap.size v (fewO o) ∧ Below w.heap.size w w'
theorem toObjects_few {W : World} {v : Value} {T : TypeId} {N : Nat} {o : List (Int × VT)} (h : OwRow T W N v (fewO o)) : Calls Tryz.prog 7 #[v] W (ToEnd W o) := by
  obtain ⟨obs, h1, h2⟩ := h.at_
  have := toObjects_any W v obs (fewO o) h1 h2 (by have := fewO_len o; omega)
  rwa [fewO_tm] at this
end Go.Proofs.YtenikoecnfbfoaaGreatDoor
/- Layer 8: the law's from. -/
namespace Go.Proofs.YtenikoecnfbfoaaGreatDoor
open Go.RowKit
set_option linter.unusedVariables false
set_option linter.unusedSimpArgs false
open Gr (RT GT)
set_option maxRecDepth 100000 in
set_option maxHeartbeats 4000000 in
theorem from_any (w : World) (vr vo : Value) (g : GT) (h : RtAt w vr g.roots) (ho : VsAt w vo g.objs) (hl : g.roots.length ≤ 1000000) :
    Calls Tryz.prog 13 #[.agg #[vr, vo]] w fun e w' => ∃ vr', e = .returned (.agg #[vr', vo]) ∧ RtAt w' vr' g.roots ∧ VsAt w' vo g.objs ∧ Below w.heap.size w w' := by
  have HR := Lib.hid (fun W hW => fromRoots_any W vr _ (h.below hW) hl)
  have HO : Hid (∀ W, Below w.heap.size w W → VsAt W vo g.objs) := fun W hW => ho.below hW
  obtain ⟨a1, c1, rfl, _⟩ := h.cells
  obtain ⟨a2, c2, rfl, _⟩ := ho
  clear h hl
  go_enter Tryz.func13, Tryz.ntmps13
  go_wp2
  have HF : Hid (∀ W, Below ((w.alloc (.cells #[.slice a1 g.roots.length c1, .slice a2 g.objs.length c2] 31)).alloc (.cells #[.slice none 0 0, .slice none 0 0] 37)).heap.size ((w.alloc (.cells #[.slice a1 g.roots.length c1, .slice a2 g.objs.length c2] 31)).alloc (.cells #[.slice none 0 0, .slice none 0 0] 37)) W →
      (W.cell? ⟨w.heap.size, 0, none⟩ = some (.slice a1 g.roots.length c1) ∧ W.cell? ⟨w.heap.size, 1, none⟩ = some (.slice a2 g.objs.length c2) ∧ W.cell? ⟨w.heap.size + 1, 0, none⟩ = some (.slice none 0 0) ∧ W.cell? ⟨w.heap.size + 1, 1, none⟩ = some (.slice none 0 0)) ∧ (∀ j, W.frozen? ⟨w.heap.size + 1, j, none⟩ = false) ∧ Below w.heap.size w W) := fun W hW => by
    obtain ⟨g1, g2, g3, _⟩ := two_new w W _ _ _ _ hW
    exact ⟨⟨by simp [World.cell?, g1], by simp [World.cell?, g1], by simp [World.cell?, g2], by simp [World.cell?, g2]⟩, fun j => by simp [World.frozen?, g2], g3⟩
  have HG : Hid (∀ W W', Below ((w.alloc (.cells #[.slice a1 g.roots.length c1, .slice a2 g.objs.length c2] 31)).alloc (.cells #[.slice none 0 0, .slice none 0 0] 37)).heap.size ((w.alloc (.cells #[.slice a1 g.roots.length c1, .slice a2 g.objs.length c2] 31)).alloc (.cells #[.slice none 0 0, .slice none 0 0] 37)) W → Chg [w.heap.size + 1] W W' →
      W'.cell? ⟨w.heap.size, 0, none⟩ = some (.slice a1 g.roots.length c1) ∧ W'.cell? ⟨w.heap.size, 1, none⟩ = some (.slice a2 g.objs.length c2)) := fun W W' hW hc => by
    obtain ⟨g1, g2, g3, hs⟩ := two_new w W _ _ _ _ hW
    exact ⟨(hc.cell (p := ⟨w.heap.size, 0, none⟩) (lt_of_block g1) (by simp)).trans (by simp [World.cell?, g1]), (hc.cell (p := ⟨w.heap.size, 1, none⟩) (lt_of_block g1) (by simp)).trans (by simp [World.cell?, g1])⟩
  go_region_held3 (fun W => W.cell? ⟨w.heap.size, 0, none⟩ = some (.slice a1 g.roots.length c1) ∧ W.cell? ⟨w.heap.size, 1, none⟩ = some (.slice a2 g.objs.length c2))
    (first | exact HG.out _ _ (Below.refl _ _).drew (Chg.refl _ _) | exact HG.out _ _ (Below.refl _ _) (Chg.refl _ _) | exact HG.out _ _ HB7.out (Chg.refl _ _) | exact HG.out _ _ HB7.out (by repeat (first | exact Chg.refl _ _ | refine Chg.setCell ?_ (.inl (by simp)) _)))
    (first | (go_at_call 23; refine (HR.out _ (HF.out _ (Below.refl _ _).drew).2.2).mono ?_; rintro e w7 ⟨v7, rfl, hr7, hb7⟩; have HB7 := Lib.hid ((Below.refl _ _).drew.trans hb7); have HR7 := Lib.hid hr7; obtain ⟨a7, c7, e7, _⟩ := hr7.at_; subst e7; have f7 := (HF.out _ HB7.out).2.1; have k7 := (HF.out _ HB7.out).1.2.2; obtain ⟨k70, k71⟩ := k7; clear hb7 hr7))
  have hc : ∀ u v : Value, Chg [w.heap.size + 1] w7 ((w7.setCell ⟨w.heap.size + 1, 0, none⟩ u).setCell ⟨w.heap.size + 1, 1, none⟩ v) := fun u v => by repeat (first | exact Chg.refl _ _ | refine Chg.setCell ?_ (.inl (by simp)) _)
  have HC := Lib.hid hc
  have H7 := Lib.hid (HF.out _ HB7.out).2.2
  have HBB : Hid (∀ u v : Value, Below w.heap.size w ((w7.setCell ⟨w.heap.size + 1, 0, none⟩ u).setCell ⟨w.heap.size + 1, 1, none⟩ v)) := fun u v => H7.out.trans ((HC.out u v).below H7.out.size (fun k hk => by simp only [List.mem_singleton] at hk; omega))
  clear hc
  go_wp2
  have q0 : ∀ u v : Value, ((w7.setCell ⟨w.heap.size + 1, 0, none⟩ u).setCell ⟨w.heap.size + 1, 1, none⟩ v).cell? ⟨w.heap.size + 1, 0, none⟩ = some u := fun u v => by
    exact (World.cell?_setCell_other _ _ _ _ (by simp)).trans (World.cell?_setCell_same _ _ _ k70)
  have q1 : ∀ u v : Value, ((w7.setCell ⟨w.heap.size + 1, 0, none⟩ u).setCell ⟨w.heap.size + 1, 1, none⟩ v).cell? ⟨w.heap.size + 1, 1, none⟩ = some v := fun u v => by
    exact World.cell?_setCell_same _ _ _ ((World.cell?_setCell_other _ _ _ _ (by simp)).trans k71)
  have hload : ∀ u v : Value, Sem.run Tryz.prog (loadVar 37 ⟨w.heap.size + 1, 0, none⟩) ((w7.setCell ⟨w.heap.size + 1, 0, none⟩ u).setCell ⟨w.heap.size + 1, 1, none⟩ v) = .ok (.agg #[u, v]) ((w7.setCell ⟨w.heap.size + 1, 0, none⟩ u).setCell ⟨w.heap.size + 1, 1, none⟩ v) := fun u v =>
    run_loadVar_mid _ _ _ _ [u, v] _ (fun j x hx => by
      match j, hx with
      | 0, hx => cases hx; exact q0 u v
      | 1, hx => cases hx; exact q1 u v) Tryz.underlying37 rfl (by kernel_rfl)
  (try simp only [Exit.inBlock, Exit.then])
  refine bodyPost_ret (v := .agg #[.slice a7 g.roots.length c7, .slice a2 g.objs.length c2]) (by
    simp only [results, Tryz.f13]
    simp [hload, asAddr]) rfl ?_
  refine ⟨_, rfl, ((HR7.out.chg (HC.out _ _) (fun k hk h => ?_)).at_), HO.out _ (HBB.out _ _), HBB.out _ _⟩
  have := HR7.out.2 k hk
  simp only [List.mem_singleton] at h
  simp at this
  omega
end Go.Proofs.YtenikoecnfbfoaaGreatDoor
/- Layer 8: the document's Same of graphs. -/
namespace Go.Proofs.YtenikoecnfbfoaaGreatDoor
open Go.RowKit
set_option linter.unusedVariables false
set_option linter.unusedSimpArgs false
open Gr (RT GT)
theorem two_cells (w W : World) (x0 x1 y0 y1 : Value) (T : TypeId) (hW : Below ((w.alloc (.cells #[x0, x1] T)).alloc (.cells #[y0, y1] T)).heap.size ((w.alloc (.cells #[x0, x1] T)).alloc (.cells #[y0, y1] T)) W) :
    (W.cell? ⟨w.heap.size, 0, none⟩ = some x0 ∧ W.cell? ⟨w.heap.size, 1, none⟩ = some x1 ∧ W.cell? ⟨w.heap.size + 1, 0, none⟩ = some y0 ∧ W.cell? ⟨w.heap.size + 1, 1, none⟩ = some y1) ∧ Below w.heap.size w W := by
  obtain ⟨g1, g2, g3, _⟩ := two_new w W _ _ _ _ hW
  exact ⟨⟨by simp [World.cell?, g1], by simp [World.cell?, g1], by simp [World.cell?, g2], by simp [World.cell?, g2]⟩, g3⟩
def EqVI (w : World) (la lb : List VT) (k : Nat) (s6 : Value) (wx : World) : Prop :=
  ∃ i : Nat, s6 = .int .i64 (i : Int) ∧ i + k = la.length ∧ VT.sames la lb = VT.sames (la.drop i) (lb.drop i) ∧ Below w.heap.size w wx
set_option maxRecDepth 100000 in
set_option maxHeartbeats 8000000 in
theorem refGraphSame_any (w : World) (ra oa rb ob : Value) (A B : GT) (h1 : RtAt w ra A.roots) (h2 : VsAt w oa A.objs) (h3 : RtAt w rb B.roots) (h4 : VsAt w ob B.objs) (hl : A.roots.length ≤ 1000000) (hl2 : B.roots.length ≤ 1000000) (hl3 : A.objs.length ≤ 1000000) (hl4 : B.objs.length ≤ 1000000) :
    Calls Tryz.prog 12 #[.agg #[ra, oa], .agg #[rb, ob]] w fun e w' => e = .returned (.bool (graphSame A B)) ∧ Below w.heap.size w w' := by
  obtain ⟨ra', oa'⟩ := A
  obtain ⟨rb', ob'⟩ := B
  obtain ⟨a1, c1, rfl, hca⟩ := h1.cells
  obtain ⟨a2, c2, rfl, _, _, _, hka⟩ := h2
  obtain ⟨a3, c3, rfl, hcb⟩ := h3.cells
  obtain ⟨a4, c4, rfl, _, _, _, hkb⟩ := h4
  dsimp only at *
  have HCA := Lib.hid hca
  have HCB := Lib.hid hcb
  have HKA := Lib.hid hka
  have HKB := Lib.hid hkb
  clear h1 h3 hca hcb hka hkb
  by_cases hlen : ra'.length = rb'.length
  · by_cases hlen2 : oa'.length = ob'.length
    · have hlq : ((ra'.length : Int) != (rb'.length : Int)) = false := by simp [hlen]
      have hlq2 : ((oa'.length : Int) != (ob'.length : Int)) = false := by simp [hlen2]
      have HLEN := Lib.hid hlen
      have HLEN2 := Lib.hid hlen2
      have hq1 : (ra'.length : Int) ≤ 1000000 := by omega
      have hq2 : (oa'.length : Int) ≤ 1000000 := by omega
      clear hlen hlen2 hl hl2 hl3 hl4
      have HGS : Hid (graphSame ⟨ra', oa'⟩ ⟨rb', ob'⟩ = (decide (ra' = rb') && VT.sames oa' ob')) := rfl
      rw [HGS.out]
      go_enter Tryz.func12, Tryz.ntmps12
      go_wp2
      have H2 := Lib.hid (fun W hW => two_cells w W (.slice a1 ra'.length c1) (.slice a2 oa'.length c2) (.slice a3 rb'.length c3) (.slice a4 ob'.length c4) 37 hW)
      go_loopg [5] ra'.length (fun gk s5 wx => EqRI ((w.alloc (.cells #[.slice a1 ra'.length c1, .slice a2 oa'.length c2] 37)).alloc (.cells #[.slice a3 rb'.length c3, .slice a4 ob'.length c4] 37)) ra' rb' gk s5 wx)
      case atStart => exact ⟨0, rfl, by omega, rfl, Below.refl _ _⟩
      case round =>
        rename World => wx
        obtain ⟨i, rfl, hi, hr, hb⟩ := hrel
        have HI := Lib.hid hi
        have HB := Lib.hid hb
        have HR := Lib.hid hr
        have i0 : (0 : Int) ≤ (i : Int) := by omega
        obtain ⟨⟨g0, g1, g2, g3⟩, hbw⟩ := H2.out wx hb
        have HBW := Lib.hid hbw
        by_cases hlt : i < ra'.length
        · have i1 : (i : Int) < (ra'.length : Int) := by omega
          have i2 : (i : Int) < (rb'.length : Int) := by have := HLEN.out; omega
          obtain ⟨x, hx⟩ : ∃ r, ra'[i]? = some r := ⟨_, List.getElem?_eq_getElem hlt⟩
          obtain ⟨y, hy⟩ : ∃ r, rb'[i]? = some r := ⟨_, List.getElem?_eq_getElem (by have := HLEN.out; omega)⟩
          obtain ⟨b, off, rfl, hbl, d0, d1, d2⟩ := HCA.out i x hx
          obtain ⟨b', off', rfl, hbl', e0, e1, e2⟩ := HCB.out i y hy
          replace d0 := (hbw.cell (p := ⟨b, off + i * 3, none⟩) hbl).trans d0
          replace d1 := (hbw.cell (p := ⟨b, off + i * 3 + 1, none⟩) hbl).trans d1
          replace d2 := (hbw.cell (p := ⟨b, off + i * 3 + 2, none⟩) hbl).trans d2
          replace e0 := (hbw.cell (p := ⟨b', off' + i * 3, none⟩) hbl').trans e0
          replace e1 := (hbw.cell (p := ⟨b', off' + i * 3 + 1, none⟩) hbl').trans e1
          replace e2 := (hbw.cell (p := ⟨b', off' + i * 3 + 2, none⟩) hbl').trans e2
          have HD := Lib.hid (drop_eq_step hx hy)
          have hn : ∀ W, Sem.run Tryz.prog (binOp .neq 66 (.agg #[.string (bytes x.name), .string (bytes x.typ), .int .i64 x.id]) (.agg #[.string (bytes y.name), .string (bytes y.typ), .int .i64 y.id])) W = .ok (.bool (!(decide (x = y)))) W := fun W => rrt_neq x y W
          have hg : ∀ (op : BinOp) (a b : Operand) W, Sem.run Tryz.prog (eqGuard op 66 a b (.agg #[.string (bytes x.name), .string (bytes x.typ), .int .i64 x.id]) (.agg #[.string (bytes y.name), .string (bytes y.typ), .int .i64 y.id])) W = .ok () W := fun op a b W => rrt_guard op a b x y W
          have HLT := Lib.hid hlt
          clear hr hb hbw hi hbl hbl' hx hy hlt
          generalize decide (x = y) = q at hn HD
          generalize bytes x.name = x0 at *
          generalize bytes x.typ = x1 at *
          generalize x.id = x2 at *
          generalize bytes y.name = y0 at *
          generalize bytes y.typ = y1 at *
          generalize y.id = y2 at *
          cases q
          · go_wp2
            go_quiet (fail)
            go_wp2
            go_ret
            refine ⟨ret_bool ?_, below_drewN HBW.out _⟩
            rw [HR.out, HD.out, Bool.false_and, Bool.false_and]
          · go_wp2
            go_quiet (fail)
            go_wp2
            go_roundg (gk - 1)
            case measure => have := HI.out; have := HLT.out; omega
            case rel => exact ⟨i + 1, by go_num, by have := HI.out; have := HLT.out; omega, by rw [HR.out, HD.out, Bool.true_and], below_drewN HB.out _⟩
        · have i1 : ¬ (i : Int) < (ra'.length : Int) := by omega
          have hz : decide (ra' = rb') = true := by rw [hr, List.drop_of_length_le (by omega), List.drop_of_length_le (by have := HLEN.out; omega)]; rfl
          have HZ := Lib.hid hz
          clear hz hr hi hb hbw hlt
          go_wp2
          go_loopg [6] oa'.length (fun gk s6 wx => EqVI ((w.alloc (.cells #[.slice a1 ra'.length c1, .slice a2 oa'.length c2] 37)).alloc (.cells #[.slice a3 rb'.length c3, .slice a4 ob'.length c4] 37)) oa' ob' gk s6 wx)
          case atStart => exact ⟨0, rfl, by omega, rfl, HB.out⟩
          case round =>
            rename World => wy
            clear g0 g1 g2 g3 i0 i1
            obtain ⟨i, rfl, hi, hr, hb⟩ := hrel
            have HI := Lib.hid hi
            have HB2 := Lib.hid hb
            have HR2 := Lib.hid hr
            have i0 : (0 : Int) ≤ (i : Int) := by omega
            obtain ⟨⟨g0, g1, g2, g3⟩, hbw⟩ := H2.out wy hb
            have HBW2 := Lib.hid hbw
            by_cases hlt : i < oa'.length
            · have i1 : (i : Int) < (oa'.length : Int) := by omega
              have i2 : (i : Int) < (ob'.length : Int) := by have := HLEN2.out; omega
              obtain ⟨x, hx⟩ : ∃ r, oa'[i]? = some r := ⟨_, List.getElem?_eq_getElem hlt⟩
              obtain ⟨y, hy⟩ : ∃ r, ob'[i]? = some r := ⟨_, List.getElem?_eq_getElem (by have := HLEN2.out; omega)⟩
              obtain ⟨b, off, _, _, _, _, rfl, hbl, _⟩ := HKA.out.get hx
              obtain ⟨b', off', _, _, _, _, rfl, hbl', _⟩ := HKB.out.get hy
              obtain ⟨_, aox, capx, d0, d1, d2, d3, hvx⟩ := HKA.out.cells hx
              obtain ⟨_, aoy, capy, e0, e1, e2, e3, hvy⟩ := HKB.out.cells hy
              simp only [Nat.zero_add] at d0 d1 d2 d3 e0 e1 e2 e3
              unfold vval at hvx hvy
              have HD : Hid (VT.sames (oa'.drop i) (ob'.drop i) = (x.same y && VT.sames (oa'.drop (i + 1)) (ob'.drop (i + 1)))) := by
                have f1 : oa'.drop i = x :: oa'.drop (i + 1) := VT.drop_kid hx
                have f2 : ob'.drop i = y :: ob'.drop (i + 1) := VT.drop_kid hy
                show _ = _
                rw [f1, f2, VT.sames]
              have HC : Hid (∀ W, Below w.heap.size w W → Calls Tryz.prog 17 #[.agg #[.int .i64 x.kind, .int .i64 x.num, .string x.text, .slice aox x.kids.length capx], .agg #[.int .i64 y.kind, .int .i64 y.num, .string y.text, .slice aoy y.kids.length capy]] W fun e w' => e = .returned (.bool (x.same y)) ∧ Below W.heap.size W w') := fun W hW =>
                same_hsR x y _ _ W (fun b => b < w.heap.size) (hvx.below hW (fun b hb => hb)) (hvy.below hW (fun b hb => hb)) (fun b hb => Nat.lt_of_lt_of_le hb hW.size)
              have HBA : Hid (∀ W, Below wy.heap.size wy W → Below w.heap.size w W) := fun W hW => hbw.trans (hW.mono hbw.size)
              have HS : Hid (∀ W, Below wy.heap.size wy W → W.cell? ⟨w.heap.size, 1, none⟩ = some (.slice (some ⟨b, off, none⟩) oa'.length c2) ∧ W.cell? ⟨w.heap.size + 1, 1, none⟩ = some (.slice (some ⟨b', off', none⟩) ob'.length c4) ∧ W.cell? ⟨b, off + i * 4, none⟩ = some (.int .i64 x.kind) ∧ W.cell? ⟨b, off + i * 4 + 1, none⟩ = some (.int .i64 x.num) ∧ W.cell? ⟨b, off + i * 4 + 2, none⟩ = some (.string x.text) ∧ W.cell? ⟨b, off + i * 4 + 3, none⟩ = some (.slice aox x.kids.length capx) ∧
                  W.cell? ⟨b', off' + i * 4, none⟩ = some (.int .i64 y.kind) ∧ W.cell? ⟨b', off' + i * 4 + 1, none⟩ = some (.int .i64 y.num) ∧ W.cell? ⟨b', off' + i * 4 + 2, none⟩ = some (.string y.text) ∧ W.cell? ⟨b', off' + i * 4 + 3, none⟩ = some (.slice aoy y.kids.length capy)) := fun W hW => by
                have hw := hbw.trans (hW.mono hbw.size)
                refine ⟨(hW.cell (p := ⟨w.heap.size, 1, none⟩) ?_).trans g1, (hW.cell (p := ⟨w.heap.size + 1, 1, none⟩) ?_).trans g3, (hw.cell (p := ⟨b, off + i * 4, none⟩) hbl).trans d0, (hw.cell (p := ⟨b, off + i * 4 + 1, none⟩) hbl).trans d1, (hw.cell (p := ⟨b, off + i * 4 + 2, none⟩) hbl).trans d2, (hw.cell (p := ⟨b, off + i * 4 + 3, none⟩) hbl).trans d3,
                  (hw.cell (p := ⟨b', off' + i * 4, none⟩) hbl').trans e0, (hw.cell (p := ⟨b', off' + i * 4 + 1, none⟩) hbl').trans e1, (hw.cell (p := ⟨b', off' + i * 4 + 2, none⟩) hbl').trans e2, (hw.cell (p := ⟨b', off' + i * 4 + 3, none⟩) hbl').trans e3⟩
                all_goals (have := hb.size; simp at this; show _ < _; simp; omega)
              have HLT := Lib.hid hlt
              clear hr hb hbw hi hbl hbl' hx hy hlt d0 d1 d2 d3 e0 e1 e2 e3 hvx hvy
              generalize x.same y = q at HC HD
              cases q
              · go_wp2
                go_region_held3 (fun W => W.cell? ⟨w.heap.size, 1, none⟩ = some (.slice (some ⟨b, off, none⟩) oa'.length c2) ∧ W.cell? ⟨w.heap.size + 1, 1, none⟩ = some (.slice (some ⟨b', off', none⟩) ob'.length c4) ∧ W.cell? ⟨b, off + i * 4, none⟩ = some (.int .i64 x.kind) ∧ W.cell? ⟨b, off + i * 4 + 1, none⟩ = some (.int .i64 x.num) ∧ W.cell? ⟨b, off + i * 4 + 2, none⟩ = some (.string x.text) ∧ W.cell? ⟨b, off + i * 4 + 3, none⟩ = some (.slice aox x.kids.length capx) ∧
                    W.cell? ⟨b', off' + i * 4, none⟩ = some (.int .i64 y.kind) ∧ W.cell? ⟨b', off' + i * 4 + 1, none⟩ = some (.int .i64 y.num) ∧ W.cell? ⟨b', off' + i * 4 + 2, none⟩ = some (.string y.text) ∧ W.cell? ⟨b', off' + i * 4 + 3, none⟩ = some (.slice aoy y.kids.length capy))
                  (first | exact HS.out _ (Below.refl _ _).drew | exact HS.out _ (Below.refl _ _) | exact HS.out _ HB7.out)
                  (first | (go_at_call 17; refine (HC.out _ (HBA.out _ (Below.refl _ _).drew)).mono ?_; rintro e w7 ⟨rfl, hb7⟩; have HB7 := Lib.hid ((Below.refl _ _).drew.trans hb7); clear hb7))
                go_wp2
                go_ret
                refine ⟨ret_bool ?_, HBA.out _ HB7.out⟩
                rw [HR2.out, HD.out, Bool.false_and, Bool.and_false]
              · go_wp2
                go_region_held3 (fun W => W.cell? ⟨w.heap.size, 1, none⟩ = some (.slice (some ⟨b, off, none⟩) oa'.length c2) ∧ W.cell? ⟨w.heap.size + 1, 1, none⟩ = some (.slice (some ⟨b', off', none⟩) ob'.length c4) ∧ W.cell? ⟨b, off + i * 4, none⟩ = some (.int .i64 x.kind) ∧ W.cell? ⟨b, off + i * 4 + 1, none⟩ = some (.int .i64 x.num) ∧ W.cell? ⟨b, off + i * 4 + 2, none⟩ = some (.string x.text) ∧ W.cell? ⟨b, off + i * 4 + 3, none⟩ = some (.slice aox x.kids.length capx) ∧
                    W.cell? ⟨b', off' + i * 4, none⟩ = some (.int .i64 y.kind) ∧ W.cell? ⟨b', off' + i * 4 + 1, none⟩ = some (.int .i64 y.num) ∧ W.cell? ⟨b', off' + i * 4 + 2, none⟩ = some (.string y.text) ∧ W.cell? ⟨b', off' + i * 4 + 3, none⟩ = some (.slice aoy y.kids.length capy))
                  (first | exact HS.out _ (Below.refl _ _).drew | exact HS.out _ (Below.refl _ _) | exact HS.out _ HB7.out)
                  (first | (go_at_call 17; refine (HC.out _ (HBA.out _ (Below.refl _ _).drew)).mono ?_; rintro e w7 ⟨rfl, hb7⟩; have HB7 := Lib.hid ((Below.refl _ _).drew.trans hb7); clear hb7))
                go_wp2
                go_roundg (gk - 1)
                case measure => have := HI.out; have := HLT.out; omega
                case rel => exact ⟨i + 1, by go_num, by have := HI.out; have := HLT.out; omega, by rw [HR2.out, HD.out, Bool.true_and], HB2.out.trans (HB7.out.mono HB2.out.size)⟩
            · have i1 : ¬ (i : Int) < (oa'.length : Int) := by omega
              have hz : VT.sames oa' ob' = true := by rw [hr, List.drop_of_length_le (by omega), List.drop_of_length_le (by have := HLEN2.out; omega)]; rfl
              have HZ2 := Lib.hid hz
              clear hz hr hi hb hbw hlt
              go_wp2
              go_ret
              exact ⟨ret_bool (by rw [HZ.out, HZ2.out]; rfl), HBW2.out⟩
    · have hlq : ((ra'.length : Int) != (rb'.length : Int)) = false := by simp [hlen]
      have hlq2 : ((oa'.length : Int) != (ob'.length : Int)) = true := by simp; omega
      have hs : graphSame ⟨ra', oa'⟩ ⟨rb', ob'⟩ = false := by
        unfold graphSame
        cases h : VT.sames oa' ob'
        · simp [h]
        · exact absurd (VT.sames_len h) hlen2
      rw [hs]
      clear hlen hlen2
      go_enter Tryz.func12, Tryz.ntmps12
      go_wp2
      go_ret
      exact ⟨rfl, ((Below.refl _ _).alloc (Nat.le_refl _) _).alloc (by simp) _⟩
  · have hlq : ((ra'.length : Int) != (rb'.length : Int)) = true := by simp; omega
    have hs : graphSame ⟨ra', oa'⟩ ⟨rb', ob'⟩ = false := by
      unfold graphSame
      simp only [Bool.and_eq_false_iff, decide_eq_false_iff_not]
      exact .inl (fun h => hlen (by rw [h]))
    rw [hs]
    clear hlen
    go_enter Tryz.func12, Tryz.ntmps12
    go_wp2
    go_ret
    exact ⟨rfl, ((Below.refl _ _).alloc (Nat.le_refl _) _).alloc (by simp) _⟩
end Go.Proofs.YtenikoecnfbfoaaGreatDoor
