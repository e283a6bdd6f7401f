/- Texts of the proof, in build order: GrRMk1, GrRMk2, GrLawP, GrMakesP, GrMakes. -/
import Derived.Test.YtenikoecnfbfoaaGreatDoorB28
import Derived.Test.YtenikoecnfbfoaaGreatDoorB33
import Derived.Deep.MidRow
import Derived.Test.YtenikoecnfbfoaaGreatDoorB25
import Derived.Test.YtenikoecnfbfoaaGreatDoorB13
import Derived.Test.YtenikoecnfbfoaaGreatDoorB27
import Derived.Test.YtenikoecnfbfoaaGreatDoorB20
import Derived.Test.YtenikoecnfbfoaaGreatDoorB22
import Derived.Test.YtenikoecnfbfoaaGreatDoorB21
/- Layer 8: the document's Make: its errors; objects that are searched. -/
namespace Go.Proofs.YtenikoecnfbfoaaGreatDoor
open Go.RowKit
set_option linter.unusedVariables false
set_option linter.unusedSimpArgs false
open Gr (RT GT makeT dirT sortO bfs meetT findO pairs)
theorem graph_load {W : World} {b : Nat} {u v : Value} (h : W.heap[b]? = some (.cells #[u, v] 37 (0, 0))) : Sem.run Tryz.prog (loadVar 37 ⟨b, 0, none⟩) W = .ok (.agg #[u, v]) W :=
  run_loadVar_mid _ _ _ _ [u, v] _ (fun j x hx => by
    match j, hx with
    | 0, hx => cases hx; exact (cells2 h).1
    | 1, hx => cases hx; exact (cells2 h).2.1) Tryz.underlying37 rfl (by kernel_rfl)
/-- Dir's error alone. -/
def DirErr (w : World) (er : Int) (e : Ending) (w' : World) : Prop := ∃ (k n : Int) (t : ByteArray) (ao : Option Addr) (len cap : Nat), e = .returned (.tuple #[.agg #[.int .i64 k, .int .i64 n, .string t, .slice ao len cap], .int .i64 er]) ∧ Below w.heap.size w w'
theorem dirErr {w : World} {r : VT × Int} {e : Ending} {w' : World} (h : DirEnd w r e w') : DirErr w r.2 e w' := by
  obtain ⟨v, rfl, hv, hb⟩ := h
  obtain ⟨ao, cap, rfl⟩ := hv.form
  exact ⟨_, _, _, _, _, _, rfl, hb⟩
theorem findO_at {id : Int} : ∀ {k : Nat} {objs : List (Int × VT)} {o : Int × VT}, (∀ (k' : Nat) (o' : Int × VT), k' < k → objs[k']? = some o' → o'.1 ≠ id) → objs[k]? = some o → o.1 = id → findO objs id = some o.2
  | 0, x :: objs, o, _, h2, h3 => by
    rw [List.getElem?_cons_zero] at h2
    cases h2
    unfold findO
    rw [List.find?_cons_of_pos (by simpa using h3)]
    rfl
  | k + 1, x :: objs, o, h1, h2, h3 => by
    rw [List.getElem?_cons_succ] at h2
    have hx := h1 0 x (by omega) rfl
    have ih := findO_at (objs := objs) (fun k' o' hk ho => h1 (k' + 1) o' (by omega) (by rw [List.getElem?_cons_succ]; exact ho)) h2 h3
    unfold findO at ih ⊢
    rw [List.find?_cons_of_neg (by simpa using hx)]
    exact ih
  | 0, [], o, _, h2, _ => by cases h2
  | _ + 1, [], o, _, h2, _ => by cases h2
theorem findO_no {objs : List (Int × VT)} {id : Int} (h : ∀ (k : Nat) (o : Int × VT), objs[k]? = some o → o.1 ≠ id) : findO objs id = none := by
  unfold findO
  rw [List.find?_eq_none.2 (fun x hx => by
    obtain ⟨k, hk⟩ := List.getElem?_of_mem hx
    simpa using h k x hk)]
  rfl
def zGr (W : World) (b : Nat) : Prop := W.heap[b]? = some (.cells #[.slice none 0 0, .slice none 0 0] 37 (0, 0))
theorem zero_end {w W : World} {e : Int} (hb : Below w.heap.size w W) : MakeEnd w (⟨[], []⟩, e) (.returned (.tuple #[.agg #[.slice none 0 0, .slice none 0 0], .int .i64 e])) W := ⟨_, _, rfl, rtAt_nil W, VsAt.nil W, hb⟩
theorem two_stores {W : World} {b : Nat} {x0 x1 u v : Value} {T : TypeId} (h : W.heap[b]? = some (.cells #[x0, x1] T (0, 0))) : ((W.setCell ⟨b, 0, none⟩ u).setCell ⟨b, 1, none⟩ v).heap[b]? = some (.cells #[u, v] T (0, 0)) ∧ Chg [b] W ((W.setCell ⟨b, 0, none⟩ u).setCell ⟨b, 1, none⟩ v) := by
  have h1 := (heap_setCell_same W b 0 _ _ u h).trans rfl
  have h2 := (heap_setCell_same _ b 1 _ _ v h1).trans rfl
  exact ⟨h2, ((Chg.refl [b] W).setCell (p := ⟨b, 0, none⟩) (.inl (by simp)) u).setCell (p := ⟨b, 1, none⟩) (.inl (by simp)) v⟩
set_option maxRecDepth 100000 in
set_option maxHeartbeats 4000000 in
theorem refMake_dir (w : World) (vr vo : Value) (roots : List RT) (objs : List (Int × VT)) (hr : RtAt w vr roots) (hl : roots.length ≤ 1000000) (hgd : ∀ r ∈ roots, Gd r) (er : Int) (her : (dirT roots).2 = er) (h0 : er ≠ 0) :
    Calls Tryz.prog 10 #[vr, vo] w (MakeEnd w (makeT roots objs)) := by
  have hm : makeT roots objs = (⟨[], []⟩, er) := by unfold makeT; rw [if_pos (by rw [her]; exact h0), her]
  rw [hm]
  have HD : Hid (∀ W, Below w.heap.size w W → Calls Tryz.prog 20 #[vr] W (DirErr W er)) := fun W hW => by
    have h := (refDir_any W vr roots (hr.below hW) hl hgd).mono fun e w' h => dirErr h
    rwa [her] at h
  clear hm hr hl hgd her
  have zA := World.alloc_heap_new w (.cells #[.slice none 0 0, .slice none 0 0] 37)
  have HZA := Lib.hid zA
  clear zA
  go_enter Tryz.func10, Tryz.ntmps10
  go_wp2_with (go_at_call 20; refine (HD.out _ ((Below.refl _ _).alloc (Nat.le_refl _) _)).mono ?_; rintro e w1 ⟨k1, n1, t1, a1, l1, c1, rfl, hb⟩; have HB1 := Lib.hid hb; have z1 := (hb.block w.heap.size (by simp)).trans HZA.out; have y0 := fun o => (cells2 ((Below.heap_alloc w1 o _ (lt_of_block z1)).trans z1)).1; have y1 := fun o => (cells2 ((Below.heap_alloc w1 o _ (lt_of_block z1)).trans z1)).2.1; have y2 := fun o => (cells2 ((Below.heap_alloc w1 o _ (lt_of_block z1)).trans z1)).2.2; have HZ1 := Lib.hid z1; clear hb z1)
  obtain ⟨zz, zc⟩ := two_stores (u := .slice none 0 0) (v := .slice none 0 0) ((Below.heap_alloc w1 (.cells #[.int .i64 k1, .int .i64 n1, .string t1, .slice a1 l1 c1] 47) _ (lt_of_block HZ1.out)).trans HZ1.out)
  have hb1 : Below w.heap.size w (w1.alloc (.cells #[.int .i64 k1, .int .i64 n1, .string t1, .slice a1 l1 c1] 47)) := (((Below.refl _ _).alloc (Nat.le_refl _) _).trans (HB1.out.mono (by simp))).trans ((Below.refl _ _).alloc (by have := HB1.out.size; simp at this; omega) _)
  generalize (((w1.alloc _).setCell _ _).setCell _ _) = wz at zz zc ⊢
  have hload := graph_load zz
  refine bodyPost_ret (v := .tuple #[.agg #[.slice none 0 0, .slice none 0 0], .int .i64 er]) (by
    simp only [results, Tryz.f10]
    simp [hload, asAddr]) rfl ?_
  exact zero_end (hb1.trans (zc.below hb1.size (by simp)))
end Go.Proofs.YtenikoecnfbfoaaGreatDoor
/- Layer 8: the document's Make, whole. -/
namespace Go.Proofs.YtenikoecnfbfoaaGreatDoor
open Go.RowKit
set_option linter.unusedVariables false
set_option linter.unusedSimpArgs false
open Gr (RT GT makeT dirT sortO bfs meetT findO pairs numOf)
/-- No object before the i-th is out of form. -/
def RmE (w W1 : World) (objs : List (Int × VT)) (gk : Nat) (s8 : Value) (wr : World) : Prop :=
  ∃ i : Nat, s8 = .int .i64 (i : Int) ∧ i + gk = objs.length ∧ (∀ (j : Nat) o, j < i → objs[j]? = some o → encErr o.2 = 0) ∧ Below W1.heap.size W1 wr
def RmM (W3 : World) (s : List RT) (gk : Nat) (s13 s15 : Value) (wr : World) : Prop :=
  ∃ i : Nat, s15 = .int .i64 (i : Int) ∧ i + gk = s.length ∧ IRow wr W3.heap.size s13 (flatP (pairs (metOf (s.take i)))) ∧ Below W3.heap.size W3 wr
structure Rm4 (w W3 wr : World) (objs : List (Int × VT)) (met0 : List Int) (j gk : Nat) (s13 s16 : Value) (met : List Int) (vals : List VT) : Prop where
  cnt : j + gk = objs.length + 1
  run : bfs objs (objs.length + 1) 0 met0 [] = bfs objs gk j met vals
  nd : met.Nodup
  found : ∀ k, k < j → ∃ v, findO objs (met.getD k 0) = some v
  le : j ≤ met.length
  len : met.length ≤ 100 + 1000 * j
  vlen : vals.length = j
  vin : ∀ v ∈ vals, ∃ o ∈ objs, o.2 = v
  row : IRow wr W3.heap.size s13 (flatP (pairs met))
  vrow : VRow wr W3.heap.size (fun b => b < w.heap.size) s16 vals
  apart : ∀ k, s16.ownBlock = some k → s13.ownBlock ≠ some k
  hb : Below W3.heap.size W3 wr
theorem Rm4.bound {w W3 wr : World} {objs : List (Int × VT)} {met0 : List Int} {j gk : Nat} {s13 s16 : Value} {met : List Int} {vals : List VT} (h : Rm4 w W3 wr objs met0 j gk s13 s16 met vals) : j ≤ objs.length := Gr.bfs_bound h.nd h.le h.found
def Rm4L (w W3 : World) (objs : List (Int × VT)) (met0 : List Int) (gk : Nat) (s13 s16 s17 : Value) (wr : World) : Prop :=
  ∃ (j : Nat) (met : List Int) (vals : List VT), s17 = .int .i64 ((2 * j : Nat) : Int) ∧ Rm4 w W3 wr objs met0 j gk s13 s16 met vals
def Rm6 (wr : World) (objs : List (Int × VT)) (id : Int) (gk : Nat) (s18 : Value) (wx : World) : Prop :=
  ∃ k : Nat, s18 = .int .i64 (k : Int) ∧ k + gk = objs.length ∧ (∀ (k' : Nat) o, k' < k → objs[k']? = some o → o.1 ≠ id) ∧ Below wr.heap.size wr wx
def Rm8 (Wk : World) (N : Nat) (met refs : List Int) (s0 : Value) (gk : Nat) (s13 s20 : Value) (wx : World) : Prop :=
  ∃ t : Nat, s20 = .int .i64 (t : Int) ∧ t + gk = refs.length ∧ IRow wx N s13 (flatP (pairs ((refs.take t).foldl meetT met))) ∧ (s13 = s0 ∨ ∀ k, s13.ownBlock = some k → Wk.heap.size ≤ k) ∧ Below Wk.heap.size Wk wx
theorem irow_lt {w : World} {N : Nat} {v : Value} {l : List Int} (h : IRow w N v l) {k : Nat} (hk : v.ownBlock = some k) : k < w.heap.size := h.1.lt hk
theorem irow_chg {F : List Nat} {w w' : World} {N : Nat} {v : Value} {l : List Int} (h : IRow w N v l) (hc : Chg F w w') (hF : ∀ k, v.ownBlock = some k → k ∉ F) : IRow w' N v l := ⟨h.1.chg hc hF, h.2⟩
theorem obV_form {w : World} {P : Nat → Prop} {t : VT} {x : OB} (h : ValIs w P t (obV x)) : x.k = t.kind ∧ x.n = t.num ∧ x.s = t.text ∧ x.len = t.kids.length := by
  obtain ⟨ao, cap, e⟩ := h.form
  have e2 := congrArg (fun v => match v with | Value.agg a => a.toList | _ => []) e
  unfold obV vval at e2
  simp only [List.cons.injEq, Value.int.injEq, Value.string.injEq, Value.slice.injEq, and_true, true_and] at e2
  exact ⟨e2.1, e2.2.1, e2.2.2.1, e2.2.2.2.2.1⟩
theorem flatP_at : ∀ {l : List Int} {k j : Nat}, j < l.length → (flatP (Gr.pairsF k l)).getD (2 * j) 0 = l.getD j 0
  | x :: l, k, 0, _ => rfl
  | x :: l, k, j + 1, h => by
    rw [Gr.pairsF, flatP, show 2 * (j + 1) = 2 * j + 1 + 1 by omega, List.getD_cons_succ, List.getD_cons_succ, List.getD_cons_succ]
    exact flatP_at (by simpa using h)
  | [], _, _, h => by simp at h
theorem RtAt.look' {W : World} {a : Option Addr} {n c : Nat} {L : List RT} (h : RtAt W (.slice a n c) L) {i : Nat} {r : RT} (hr : L[i]? = some r) : ∃ b off, a = some ⟨b, off, none⟩ ∧ W.cell? ⟨b, off + i * 3, none⟩ = some (.string (bytes r.name)) ∧ W.cell? ⟨b, off + i * 3 + 1, none⟩ = some (.string (bytes r.typ)) ∧ W.cell? ⟨b, off + i * 3 + 2, none⟩ = some (.int .i64 r.id) := by
  obtain ⟨ao, cap, e, hh⟩ := h.cells
  cases e
  obtain ⟨b, off, e, _, c0, c1, c2⟩ := hh i r hr
  exact ⟨b, off, e, c0, c1, c2⟩
def Rm10 (W4 : World) (Bg : Nat) (met : List Int) (vals : List VT) (gk : Nat) (s21 : Value) (wx : World) : Prop :=
  ∃ (t : Nat) (og : Value), s21 = .int .i64 (t : Int) ∧ t + gk = vals.length ∧ wx.heap[Bg]? = some (.cells #[.slice none 0 0, og] 37 (0, 0)) ∧
    VRow wx W4.heap.size (fun b => W4.heap.size ≤ b ∧ b < wx.heap.size ∧ og.ownBlock ≠ some b) og ((vals.take t).map (mvT met)) ∧ Chg [Bg] W4 wx
/-- The roots get their new numbers, one by one. -/
def Rm12 (W5 : World) (N Bg : Nat) (vs og : Value) (met : List Int) (s : List RT) (gk : Nat) (s24 : Value) (wq : World) : Prop :=
  ∃ (i : Nat) (or : Value), s24 = .int .i64 (i : Int) ∧ i + gk = s.length ∧ RtRow 66 wq N vs (rootsAt s i met) ∧ wq.heap[Bg]? = some (.cells #[or, og] 37 (0, 0)) ∧
    RtRow 66 wq W5.heap.size or ((s.take i).map (renum met)) ∧ Chg (Bg :: vs.ownBlock.toList) W5 wq
theorem rootsAt_set {s : List RT} {i : Nat} {r : RT} {met : List Int} (h : s[i]? = some r) : (rootsAt s i met).set i (renum met r) = rootsAt s (i + 1) met := by
  have hi := (List.getElem?_eq_some_iff.1 h).1
  have hr := (List.getElem?_eq_some_iff.1 h).2
  have e1 : s.take (i + 1) = s.take i ++ [r] := by rw [List.take_add_one, h]; rfl
  have e2 : s.drop i = r :: s.drop (i + 1) := by rw [List.drop_eq_getElem_cons hi, hr]
  unfold rootsAt
  rw [e2, List.set_append_right _ _ (by rw [List.length_map, List.length_take]; omega), List.length_map, List.length_take, Nat.min_eq_left (by omega), Nat.sub_self, List.set_cons_zero, e1, List.map_append, List.map_cons, List.map_nil, List.append_assoc, List.singleton_append]
theorem rootsAt_done {s : List RT} {i : Nat} {r : RT} {met : List Int} (h : s[i]? = some r) : (rootsAt s (i + 1) met)[i]? = some (renum met r) := by
  have hi := (List.getElem?_eq_some_iff.1 h).1
  unfold rootsAt
  rw [List.getElem?_append_left (by rw [List.length_map, List.length_take]; omega), List.getElem?_map, List.getElem?_take_of_lt (by omega), h]
  rfl
theorem row_store {w : World} {N g n cap i : Nat} {s : List RT} {r : RT} {met : List Int} (h : RtRow 66 w N (.slice (some ⟨g, 0, none⟩) n cap) (rootsAt s i met)) (hn : n = s.length) (hr : s[i]? = some r) :
    RtRow 66 (w.setCell ⟨g, i * 3 + 2, none⟩ (.int .i64 (numOf met r.id))) N (.slice (some ⟨g, 0, none⟩) n cap) (rootsAt s (i + 1) met) := by
  have h1 := h.1
  rw [rootsAt_len] at h1
  subst hn
  have h2 := (World.ownsRow.stored h1 (i * 3 + 2) (.int .i64 (numOf met r.id))).1
  rw [rtcells_set (rootsAt_get hr)] at h2
  have e := rootsAt_set (met := met) hr
  unfold renum at e
  rw [e] at h2
  refine ⟨?_, h.2⟩
  rw [rootsAt_len]
  exact h2
theorem pairsF_wf2 : ∀ (l : List Int) (k : Nat), k + l.length ≤ 1000000 → ∀ x ∈ Gr.pairsF k l, (Lit.int .i64 x.2).wf = true
  | [], _, _, x, hx => by cases hx
  | y :: l, k, h, x, hx => by
    rw [List.length_cons] at h
    rw [Gr.pairsF] at hx
    rcases List.mem_cons.1 hx with rfl | hx
    · exact WalkArith.wf_i64 (by omega)
    · exact pairsF_wf2 l (k + 1) (by omega) x hx
set_option maxRecDepth 100000 in
set_option maxHeartbeats 32000000 in
theorem refMake_rest (w : World) (vr vo : Value) (roots s : List RT) (obs : List OB) (objs : List (Int × VT)) (hr : RtAt w vr roots) (hl : roots.length ≤ 1000000) (hgd : ∀ r ∈ roots, Gd r) (h0 : (dirT roots).2 = 0) (hs : sortO roots [] = some s) (hsl : s.length ≤ 100)
    (ho : ObAt w vo obs) (hoi : ObsIs w (fun b => b < w.heap.size) obs objs) (hol : objs.length ≤ 100) (hsz : ∀ o ∈ objs, o.2.sz ≤ 1000) : Calls Tryz.prog 10 #[vr, vo] w (MakeEnd w (makeT roots objs)) := by
  have HD : Hid (∀ W, Below w.heap.size w W → Calls Tryz.prog 20 #[vr] W (DirErr W 0)) := fun W hW => by
    have h := (refDir_any W vr roots (hr.below hW) hl hgd).mono fun e w' h => dirErr h
    rwa [h0] at h
  have HSO : Hid (∀ W, Below w.heap.size w W → Calls Tryz.prog 31 #[vr] W (RSrtEnd W roots)) := fun W hW => refSorted_any W vr roots (hr.below hW) hl (gd_sizes hgd)
  have HS := Lib.hid hs
  have HSL := Lib.hid hsl
  have HSZ := Lib.hid hsz
  have HLE := Lib.hid hoi.1
  have HOI := Lib.hid hoi.2
  have HMK : Hid (makeT roots objs = if objs.any (fun o => decide (encErr o.2 ≠ 0)) then ((⟨[], []⟩ : GT), (2 : Int)) else match bfs objs (objs.length + 1) 0 (metOf s) [] with
      | none => ((⟨[], []⟩ : GT), (5 : Int))
      | some (met, vals) => ((⟨s.map (renum met), vals.map (mvT met)⟩ : GT), (0 : Int))) := by
    show _ = _
    unfold makeT
    rw [if_neg (by simp [h0]), hs]
    rfl
  obtain ⟨ar, cr, rfl, _⟩ := hr.cells
  obtain ⟨ao, cap, rfl, _, _, _, hbl0, hcc⟩ := ho
  have HCC := Lib.hid hcc
  have HBL := Lib.hid hbl0
  rw [hoi.1]
  have ol2 : (objs.length : Int) ≤ 100 := by omega
  have HOL := Lib.hid hol
  clear hr hl hgd h0 hs hsl hoi hol hsz hcc hbl0
  have zA := World.alloc_heap_new w (.cells #[.slice none 0 0, .slice none 0 0] 37)
  have HZA := Lib.hid zA
  clear zA
  go_enter Tryz.func10, Tryz.ntmps10
  go_upto_block 0 with (go_at_call 20; refine (HD.out _ ((Below.refl _ _).alloc (Nat.le_refl _) _)).mono ?_; rintro e w1 ⟨k1, n1, t1, a1, l1, c1, rfl, hb⟩; have HB1 := Lib.hid (((Below.refl _ _).alloc (Nat.le_refl _) _).trans (hb.mono (by simp))); have z1 := (hb.block w.heap.size (by simp)).trans HZA.out; have HZ1 := Lib.hid z1; clear hb z1)
  obtain ⟨W1, hW1⟩ : ∃ W, W = w1.alloc (.cells #[.int .i64 k1, .int .i64 n1, .string t1, .slice a1 l1 c1] 47) := ⟨_, rfl⟩
  have hb1 : Below w.heap.size w W1 := by rw [hW1]; exact HB1.out.trans ((Below.refl _ _).alloc HB1.out.size _)
  have hz : zGr W1 w.heap.size := by unfold zGr; rw [hW1]; exact (Below.heap_alloc w1 _ _ (lt_of_block HZ1.out)).trans HZ1.out
  rw [← hW1]
  have HB1 := Lib.hid hb1
  have HZ1 := Lib.hid hz
  clear hb1 hz hW1 HZA HD
  have HBN : Hid (∀ W, Below W1.heap.size W1 W → Below w.heap.size w W) := fun W hW => HB1.out.trans (hW.mono HB1.out.size)
  go_cut [] (fun wx => Below W1.heap.size W1 wx ∧ ∀ o ∈ objs, encErr o.2 = 0)
  case first =>
    go_wp2
    go_loopg [8] objs.length (fun gk s8 wr => RmE w W1 objs gk s8 wr)
    case atStart => exact ⟨0, rfl, by omega, fun j o hj => absurd hj (by omega), Below.refl _ _⟩
    case round =>
      rename World => wx
      obtain ⟨i, rfl, hi, hok, hb⟩ := hrel
      have HI := Lib.hid hi
      have HOK := Lib.hid hok
      have HB := Lib.hid hb
      have i0 : (0 : Int) ≤ (i : Int) := by omega
      by_cases hlt : i < objs.length
      · have i1 : (i : Int) < (objs.length : Int) := by omega
        obtain ⟨o, ho⟩ : ∃ o, objs[i]? = some o := ⟨_, List.getElem?_eq_getElem hlt⟩
        obtain ⟨x, hx⟩ : ∃ r, obs[i]? = some r := ⟨_, List.getElem?_eq_getElem (by have := HLE.out; omega)⟩
        obtain ⟨b, off, rfl, d0, d1, d2, d3, d4⟩ := HCC.out i x hx
        have hbl := (HBL.out b off none rfl).2
        obtain ⟨hid, hval, hwf⟩ := HOI.out i x o hx ho
        have hbw := HBN.out _ hb
        have c1 : wx.cell? ⟨b, off + i * 5 + 1, none⟩ = some (.int .i64 x.k) := (hbw.cell (p := ⟨b, off + i * 5 + 1, none⟩) hbl).trans d1
        have c2 : wx.cell? ⟨b, off + i * 5 + 1 + 1, none⟩ = some (.int .i64 x.n) := (hbw.cell (p := ⟨b, off + i * 5 + 1 + 1, none⟩) hbl).trans d2
        have c3 : wx.cell? ⟨b, off + i * 5 + 1 + 2, none⟩ = some (.string x.s) := (hbw.cell (p := ⟨b, off + i * 5 + 1 + 2, none⟩) hbl).trans d3
        have c4 : wx.cell? ⟨b, off + i * 5 + 1 + 3, none⟩ = some (.slice x.ao x.len x.cap) := (hbw.cell (p := ⟨b, off + i * 5 + 1 + 3, none⟩) hbl).trans d4
        obtain ⟨ee, hee⟩ : ∃ ee, encErr o.2 = ee := ⟨_, rfl⟩
        have HEN : Hid (Calls Tryz.prog 30 #[.agg #[.int .i64 x.k, .int .i64 x.n, .string x.s, .slice x.ao x.len x.cap]] wx fun e w' => e = .returned (.tuple #[.string (bytes (encBytes o.2)), .int .i64 ee]) ∧ Below wx.heap.size wx w') := by
          have h := refEncode_any o.2 _ wx _ (hval.below hbw (fun b h => h)) (fun b hb => Nat.lt_of_lt_of_le hb hbw.size)
          unfold RefEncEnd at h
          rw [hee] at h
          exact h
        have HO := Lib.hid ho
        have HLT := Lib.hid hlt
        have HEE := Lib.hid hee
        have hz1 := (hb.block _ (lt_of_block HZ1.out)).trans HZ1.out
        have HZX := Lib.hid hz1
        clear hi hok hb hlt ho hx d0 d1 d2 d3 d4 hbl hid hval hwf hbw hee hz1
        generalize bytes (encBytes o.2) = eb at HEN
        by_cases hz : ee = 0
        · subst hz
          go_wp2_with (go_at_call 30; refine HEN.out.mono ?_; clear HEN; rintro e w5 ⟨rfl, hb5⟩; have HB5 := Lib.hid hb5; clear hb5)
          go_roundg (gk - 1)
          case measure => have := HI.out; have := HLT.out; omega
          case rel =>
            refine ⟨i + 1, by go_num, by have := HI.out; have := HLT.out; omega, fun j o' hj ho' => ?_, HB.out.trans (HB5.out.mono HB.out.size)⟩
            by_cases hji : j < i
            · exact HOK.out j o' hji ho'
            · have : j = i := by omega
              subst this
              have h := HO.out
              rw [ho'] at h
              cases h
              exact HEE.out
        · have HANY : Hid (makeT roots objs = (⟨[], []⟩, 2)) := by
            show _ = _
            rw [HMK.out, if_pos]
            rw [List.any_eq_true]
            exact ⟨o, List.mem_of_getElem? HO.out, by rw [HEE.out]; simpa using hz⟩
          go_wp2_with (go_at_call 30; refine HEN.out.mono ?_; clear HEN; rintro e w5 ⟨rfl, hb5⟩; have HB5 := Lib.hid hb5; have z5 := (hb5.block _ (lt_of_block HZX.out)).trans HZX.out; have HZ5 := Lib.hid z5; have y0 := (cells2 z5).1; have y1 := (cells2 z5).2.1; have y2 := (cells2 z5).2.2; clear hb5 z5)
          obtain ⟨zz, zc⟩ := two_stores (u := .slice none 0 0) (v := .slice none 0 0) HZ5.out
          generalize ((World.setCell w5 _ _).setCell _ _) = wz at zz zc ⊢
          have hload := graph_load zz
          refine bodyPost_ret (v := .tuple #[.agg #[.slice none 0 0, .slice none 0 0], .int .i64 2]) (by
            simp only [results, Tryz.f10]
            simp [hload, asAddr]) rfl ?_
          rw [HANY.out]
          have h5 := HBN.out _ (HB.out.trans (HB5.out.mono HB.out.size))
          exact zero_end (h5.trans (zc.below h5.size (by simp)))
      · have i1 : ¬ (i : Int) < (objs.length : Int) := by omega
        have hall : ∀ o ∈ objs, encErr o.2 = 0 := fun o ho => by
          obtain ⟨j, hj⟩ := List.getElem?_of_mem ho
          exact HOK.out j o (by have := (List.getElem?_eq_some_iff.1 hj).1; omega) hj
        clear hi hok hb hlt
        go_wp2
        all_goals (go_meet; exact ⟨HB.out, hall⟩)
  case rest =>
    obtain ⟨hbx, hall⟩ := hcut
    have HBX := Lib.hid hbx
    have hz1 := (hbx.block _ (lt_of_block HZ1.out)).trans HZ1.out
    have HZX := Lib.hid hz1
    have HMK2 : Hid (makeT roots objs = match bfs objs (objs.length + 1) 0 (metOf s) [] with
      | none => ((⟨[], []⟩ : GT), (5 : Int))
      | some (met, vals) => ((⟨s.map (renum met), vals.map (mvT met)⟩ : GT), (0 : Int))) := by
      show _ = _
      rw [HMK.out, if_neg]
      rw [List.any_eq_true]
      rintro ⟨o, ho, h⟩
      rw [hall o ho] at h
      simp at h
    clear hbx hall hz1 HMK
    go_upto_block 2 with (go_at_call 31; refine (HSO.out _ (HBN.out _ HBX.out)).mono ?_; clear HSO; rintro e w2 ⟨v2, rfl, hr, hn, hb⟩; have hr2 := hr s HS.out; obtain ⟨a2, c2, e2, _⟩ := hr2.at_; subst e2; have HR2 := Lib.hid hr2; have HB2 := Lib.hid hb; clear hr hn hb hr2; simp only [HS.out, Option.isSome_some])
    obtain ⟨W3, hW3⟩ : ∃ W, W = w2.alloc (.cells #[.slice none 0 0, .slice none 0 0] 37) := ⟨_, rfl⟩
    obtain ⟨Bg, hBg⟩ : ∃ p, p = w2.heap.size := ⟨_, rfl⟩
    have hb3 : Below w2.heap.size w2 W3 := by rw [hW3]; exact (Below.refl _ _).alloc (Nat.le_refl _) _
    have ZG : Hid (zGr W3 Bg) := by show _ = _; rw [hW3, hBg]; exact World.alloc_heap_new _ _
    have hb23 : Below wc.heap.size wc W3 := HB2.out.trans (hb3.mono HB2.out.size)
    have ZR : Hid (zGr W3 w.heap.size) := (hb23.block _ (lt_of_block HZX.out)).trans HZX.out
    have R3 := Lib.hid (HR2.out.below hb3)
    have BW3 : Hid (Below w.heap.size w W3) := by
      have h := HBN.out _ HBX.out
      exact h.trans (hb23.mono h.size)
    have HWC : Hid (w.heap.size < wc.heap.size) := lt_of_block HZX.out
    have HBG : Hid (wc.heap.size ≤ Bg) := by show _ ≤ _; rw [hBg]; exact HB2.out.size
    have HSB : Hid (∀ k, (Value.slice a2 s.length c2).ownBlock = some k → k < Bg) := fun k hk => by rw [hBg]; exact HR2.out.1.lt hk
    rw [← hW3, ← hBg]
    clear hW3 hBg hb3 hb23 HR2 HB2 HZX HBX HBN HZ1 HB1
    have HBN3 : Hid (∀ W, Below W3.heap.size W3 W → Below w.heap.size w W) := fun W hW => BW3.out.trans (hW.mono BW3.out.size)
    have sl2 : (s.length : Int) ≤ 100 := by have := HSL.out; omega
    go_wp2
    go_loopg [13, 15] s.length (fun gk s13 s15 wr => RmM W3 s gk s13 s15 wr)
    case atStart => exact ⟨0, rfl, by omega, by simpa [metOf, pairs, Gr.pairsF, flatP] using IRow.nil _ _, Below.refl _ _⟩
    case round =>
      rename World => wx
      obtain ⟨i, rfl, hi, hrow, hb⟩ := hrel
      have HI := Lib.hid hi
      have HROW := Lib.hid hrow
      have HB := Lib.hid hb
      have i0 : (0 : Int) ≤ (i : Int) := by omega
      by_cases hlt : i < s.length
      · have i1 : (i : Int) < (s.length : Int) := by omega
        obtain ⟨r, hr⟩ : ∃ r, s[i]? = some r := ⟨_, List.getElem?_eq_getElem hlt⟩
        obtain ⟨b, off, rfl, c0, c1, c2'⟩ := (R3.out.at_.below hb).look' hr
        have hml := metOf_len (s.take i)
        have hml2 : (metOf (s.take i)).length ≤ 1000000 := by rw [List.length_take] at hml; omega
        have HME := Lib.hid (refMeet_any (metOf (s.take i)) r.id wx W3.heap.size _ hml2 hb.size hrow)
        have HNX : Hid (meetT (metOf (s.take i)) r.id = metOf (s.take (i + 1))) := by
          show _ = _
          rw [List.take_add_one, hr, Option.toList_some, metOf_snoc]
        have HLT := Lib.hid hlt
        clear hi hrow hb hlt hr hml hml2
        go_wp2_with (go_at_call 32; refine HME.out.mono ?_; clear HME; rintro e w5 ⟨v5, rfl, hr5, hb5, _⟩; have HR5 := Lib.hid hr5; have HB5 := Lib.hid hb5; clear hr5 hb5)
        go_roundg (gk - 1)
        case measure => have := HI.out; have := HLT.out; omega
        case rel => exact ⟨i + 1, by go_num, by have := HI.out; have := HLT.out; omega, by rw [← HNX.out]; exact HR5.out, HB.out.trans (HB5.out.mono HB.out.size)⟩
      · have i1 : ¬ (i : Int) < (s.length : Int) := by omega
        rw [List.take_of_length_le (show s.length ≤ i by omega)] at HROW
        obtain ⟨met0, hm0⟩ : ∃ m, metOf s = m := ⟨_, rfl⟩
        have HM0 := Lib.hid hm0
        have hml := metOf_len s
        have hnd : (metOf s).Nodup := Gr.meets_nodup .nil
        rw [hm0] at hml hnd HROW HMK2
        have HML := Lib.hid hml
        have HND := Lib.hid hnd
        clear hi hrow hb hlt hml hnd hm0
        go_upto_block 4 with (fail)
        go_wp2
        go_loopg [13, 16, 17] (objs.length + 1) (fun gk s13 s16 s17 wr => Rm4L w W3 objs met0 gk s13 s16 s17 wr)
        case atStart =>
          exact ⟨0, met0, [], rfl, ⟨by omega, rfl, HND.out, fun k hk => absurd hk (by omega), Nat.zero_le _, by have := HML.out; have := HSL.out; omega, rfl, (fun v hv => by cases hv), HROW.out, VRow.nil _ _ _, (fun k hk => by simp [Value.ownBlock] at hk), HB.out⟩⟩
        case round =>
          clear HROW HB HI HML HND
          rename World => wy
          obtain ⟨j, met, vals, rfl, h4⟩ := hrel
          have H4 := Lib.hid h4
          have hjo := h4.bound
          have HJO := Lib.hid hjo
          obtain ⟨am, cm, em, _⟩ := h4.row.form
          obtain ⟨av, cv, ev⟩ := h4.vrow.form
          obtain ⟨L, hL⟩ : ∃ L, (flatP (pairs met)).length = L := ⟨_, rfl⟩
          have hL2 : L = 2 * met.length := by rw [← hL, flatP_len, Gr.pairs_len]
          have hlen := h4.len
          rw [hL] at em
          subst em ev
          obtain ⟨q, hq⟩ : ∃ q, q = 2 * j := ⟨_, rfl⟩
          rw [← hq]
          have HQ := Lib.hid hq
          have HL := Lib.hid hL
          have HL2 := Lib.hid hL2
          have q0 : (0 : Int) ≤ (q : Int) := by omega
          have q9 : (q : Int) ≤ 1000 := by omega
          by_cases hj : j < met.length
          · have q1 : (q : Int) < (L : Int) := by omega
            obtain ⟨id, hid⟩ : ∃ id, met[j]? = some id := ⟨_, List.getElem?_eq_getElem hj⟩
            have hgd : met.getD j 0 = id := by simp [List.getD, hid]
            have hrq : q < (flatP (pairs met)).length := by rw [hL]; omega
            have HPC : Hid (∀ W, Below wy.heap.size wy W → ∃ g, am = some ⟨g, 0, none⟩ ∧ W.cell? ⟨g, q, none⟩ = some (.int .i64 id)) := fun W hW => by
              have hr := h4.row.below hW
              obtain ⟨g, e, p0⟩ := hr.cell hrq
              rw [hq, pairs, flatP_at hj, hgd] at p0
              rw [hq]
              exact ⟨g, e, p0⟩
            have hbn : ∀ W, Below wy.heap.size wy W → Below w.heap.size w W := fun W hW => HBN3.out _ (h4.hb.trans (hW.mono h4.hb.size))
            have HBY := Lib.hid hbn
            have HGD := Lib.hid hgd
            have HID := Lib.hid hid
            have HJ := Lib.hid hj
            clear h4 hlen hbn hq hL hL2 hj hjo hgd hid hrq
            go_upto_block 6 with (fail)
            go_cut [18] (fun s18 wz => ∃ k : Nat, s18 = .int .i64 (k : Int) ∧ k ≤ objs.length ∧ (∀ (k' : Nat) o, k' < k → objs[k']? = some o → o.1 ≠ id) ∧ (∀ o, objs[k]? = some o → o.1 = id) ∧ Below wy.heap.size wy wz)
            case first =>
              go_wp2
              go_loopg [18] objs.length (fun gk s18 wz => Rm6 wy objs id gk s18 wz)
              case atStart => exact ⟨0, rfl, by omega, fun k' o hk => absurd hk (by omega), Below.refl _ _⟩
              case round =>
                rename World => wz
                obtain ⟨k, rfl, hk, hne, hb⟩ := hrel
                have HK := Lib.hid hk
                have HNE := Lib.hid hne
                have HB := Lib.hid hb
                have k0 : (0 : Int) ≤ (k : Int) := by omega
                obtain ⟨g, rfl, p0⟩ := HPC.out wz hb
                by_cases hlt : k < objs.length
                · have k1 : (k : Int) < (objs.length : Int) := by omega
                  obtain ⟨o, ho⟩ : ∃ o, objs[k]? = some o := ⟨_, List.getElem?_eq_getElem hlt⟩
                  obtain ⟨x, hx⟩ : ∃ r, obs[k]? = some r := ⟨_, List.getElem?_eq_getElem (by have := HLE.out; omega)⟩
                  obtain ⟨b, off, rfl, d0, _⟩ := HCC.out k x hx
                  have hbl := (HBL.out b off none rfl).2
                  obtain ⟨hxid, _, _⟩ := HOI.out k x o hx ho
                  have c0 : wz.cell? ⟨b, off + k * 5, none⟩ = some (.int .i64 o.1) := ((HBY.out _ hb).cell (p := ⟨b, off + k * 5, none⟩) hbl).trans (by rw [← hxid]; exact d0)
                  have HO := Lib.hid ho
                  have HLT := Lib.hid hlt
                  clear hk hne hb hlt ho hx d0 hbl hxid
                  by_cases he : o.1 = id
                  · have e1 : (o.1 != id) = false := by simpa using he
                    have HE := Lib.hid he
                    clear he
                    go_wp2
                    go_quiet (fail)
                    go_wp2
                    all_goals (go_meet; exact ⟨k, rfl, Nat.le_of_lt HLT.out, HNE.out, fun o' h => by rw [HO.out] at h; cases h; exact HE.out, HB.out.trans ((below_drewN (Below.refl _ _) _).mono HB.out.size)⟩)
                  · have e1 : (o.1 != id) = true := by simpa using he
                    have HE := Lib.hid he
                    clear he
                    go_wp2
                    go_quiet (fail)
                    go_wp2
                    go_roundg (gk - 1)
                    case measure => have := HK.out; have := HLT.out; omega
                    case rel =>
                      refine ⟨k + 1, by go_num, by have := HK.out; have := HLT.out; omega, fun k' o' hk' ho' => ?_, HB.out.trans ((below_drewN (Below.refl _ _) _).mono HB.out.size)⟩
                      by_cases hkk : k' < k
                      · exact HNE.out k' o' hkk ho'
                      · have : k' = k := by omega
                        subst this
                        have h := HO.out
                        rw [ho'] at h
                        cases h
                        exact HE.out
                · have k1 : ¬ (k : Int) < (objs.length : Int) := by omega
                  have hkn : k = objs.length := by omega
                  have HKN := Lib.hid hkn
                  clear hk hne hb hkn
                  have hend : ∀ o, objs[k]? = some o → o.1 = id := fun o h => by
                    rw [List.getElem?_eq_none (by rw [HKN.out]; exact Nat.le_refl _)] at h
                    cases h
                  have k2 : decide ((k : Int) < (objs.length : Int)) = false := by simp only [decide_eq_false_iff_not]; exact k1
                  go_wp2
                  go_quiet (fail)
                  go_wp2
                  all_goals (go_meet; exact ⟨k, rfl, Nat.le_of_eq HKN.out, HNE.out, hend, HB.out.trans ((below_drewN (Below.refl _ _) _).mono HB.out.size)⟩)
            case rest =>
              obtain ⟨k, e18, hk, hne, heq, hbz⟩ := hcut
              subst e18
              have HNE := Lib.hid hne
              have HEQ := Lib.hid heq
              have HBZ := Lib.hid hbz
              have hgk : ∃ f, gk = f + 1 := ⟨gk - 1, by have := H4.out.cnt; have := HJO.out; omega⟩
              obtain ⟨f, rfl⟩ := hgk
              have hzr := (((H4.out.hb.block _ (lt_of_block ZR.out)).trans ZR.out))
              have hzr2 := (hbz.block _ (lt_of_block hzr)).trans hzr
              have HZR2 := Lib.hid hzr2
              have k0 : (0 : Int) ≤ (k : Int) := by omega
              clear hne heq hbz hzr hzr2
              by_cases hkn : k = objs.length
              · have HF : Hid (makeT roots objs = (⟨[], []⟩, 5)) := by
                  have hno : findO objs id = none := findO_no fun k' o ho => HNE.out k' o (by have := (List.getElem?_eq_some_iff.1 ho).1; omega) ho
                  show _ = _
                  rw [HMK2.out, H4.out.run, bfs, HID.out]
                  simp only [hno]
                have e1 : ((k : Int) == (objs.length : Int)) = true := by simp; omega
                obtain ⟨y0, y1, y2⟩ := cells2 HZR2.out
                clear hkn hk
                go_wp2
                obtain ⟨zz, zc⟩ := two_stores (u := .slice none 0 0) (v := .slice none 0 0) HZR2.out
                generalize ((World.setCell wc _ _).setCell _ _) = wq at zz zc ⊢
                have hload := graph_load zz
                refine bodyPost_ret (v := .tuple #[.agg #[.slice none 0 0, .slice none 0 0], .int .i64 5]) (by
                  simp only [results, Tryz.f10]
                  simp [hload, asAddr]) rfl ?_
                rw [HF.out]
                have h5 := HBY.out _ HBZ.out
                exact zero_end (h5.trans (zc.below h5.size (by simp)))
              · have e1 : ((k : Int) == (objs.length : Int)) = false := by simp; omega
                have k1 : (k : Int) < (objs.length : Int) := by omega
                obtain ⟨o, ho⟩ : ∃ o, objs[k]? = some o := ⟨_, List.getElem?_eq_getElem (by omega)⟩
                obtain ⟨x, hx⟩ : ∃ r, obs[k]? = some r := ⟨_, List.getElem?_eq_getElem (by have := HLE.out; omega)⟩
                obtain ⟨b, off, rfl, d0, d1, d2, d3, d4⟩ := HCC.out k x hx
                have hbl := (HBL.out b off none rfl).2
                obtain ⟨_, hval, _⟩ := HOI.out k x o hx ho
                obtain ⟨f1, f2, f3, f4⟩ := obV_form hval
                have hbw := HBY.out _ HBZ.out
                unfold obV at hval
                rw [f1, f2, f3, f4] at hval
                rw [f1] at d1; rw [f2] at d2; rw [f3] at d3; rw [f4] at d4
                have HC : Hid (∀ W, Below wc.heap.size wc W → W.cell? ⟨b, off + k * 5 + 1, none⟩ = some (.int .i64 o.2.kind) ∧ W.cell? ⟨b, off + k * 5 + 1 + 1, none⟩ = some (.int .i64 o.2.num) ∧ W.cell? ⟨b, off + k * 5 + 1 + 2, none⟩ = some (.string o.2.text) ∧ W.cell? ⟨b, off + k * 5 + 1 + 3, none⟩ = some (.slice x.ao o.2.kids.length x.cap)) := fun W hW => by
                  have hbw := hbw.trans (hW.mono hbw.size)
                  exact ⟨(hbw.cell (p := ⟨b, off + k * 5 + 1, none⟩) hbl).trans d1, (hbw.cell (p := ⟨b, off + k * 5 + 1 + 1, none⟩) hbl).trans d2, (hbw.cell (p := ⟨b, off + k * 5 + 1 + 2, none⟩) hbl).trans d3, (hbw.cell (p := ⟨b, off + k * 5 + 1 + 3, none⟩) hbl).trans d4⟩
                have HV := Lib.hid hval
                have HBW := Lib.hid hbw
                have hmem := List.mem_of_getElem? ho
                have HMEM := Lib.hid hmem
                have hosz := HSZ.out o hmem
                have HF : Hid (findO objs id = some o.2) := by
                  exact findO_at HNE.out ho (HEQ.out o ho)
                have hrl := VT.refs_len o.2
                obtain ⟨refs, hrefs⟩ : ∃ r, o.2.refs = r := ⟨_, rfl⟩
                have HRF : Hid (Calls Tryz.prog 33 #[.agg #[.int .i64 o.2.kind, .int .i64 o.2.num, .string o.2.text, .slice x.ao o.2.kids.length x.cap]] wc (RefsEnd wc refs)) := by
                  rw [← hrefs]
                  exact refRefs_walk o.2.sz o.2 _ wc _ (Nat.le_refl _) (hval.below hbw (fun b h => h)) (fun b hb => Nat.lt_of_lt_of_le hb hbw.size) (by omega)
                rw [hrefs] at hrl
                have HRFS := Lib.hid hrefs
                have hrl2 : refs.length ≤ 1000 := by omega
                have HRL := Lib.hid hrl2
                have rl3 : (refs.length : Int) ≤ 1000 := by omega
                obtain ⟨c1, c2', c3, c4⟩ := HC.out wc (Below.refl _ _)
                clear hkn hk d0 d1 d2 d3 d4 hbl hval hbw hmem hosz f1 f2 f3 f4 hrl hrl2 hrefs ho hx
                go_upto_block 8 with (go_at_call 33; refine HRF.out.mono ?_; clear HRF; rintro e w6 ⟨v6, rfl, hr6, hb6⟩; obtain ⟨a6, c6, e6, _⟩ := hr6.form; subst e6; have HR6 := Lib.hid hr6; have HB6 := Lib.hid hb6; clear hr6 hb6)
                clear c1 c2' c3 c4
                go_wp2
                go_loopg [13, 20] refs.length (fun gk s13 s20 wx => Rm8 w6 W3.heap.size met refs (.slice am L cm) gk s13 s20 wx)
                case atStart =>
                  exact ⟨0, rfl, by omega, by
                    have h := H4.out.row.below (HBZ.out.trans (HB6.out.mono HBZ.out.size))
                    simpa using h, .inl rfl, Below.refl _ _⟩
                case round =>
                  rename World => wx
                  obtain ⟨t, rfl, ht, hrow, hown, hb⟩ := hrel
                  have HT := Lib.hid ht
                  have HROW := Lib.hid hrow
                  have HOWN := Lib.hid hown
                  have HB := Lib.hid hb
                  have t0 : (0 : Int) ≤ (t : Int) := by omega
                  by_cases hlt : t < refs.length
                  · have t1 : (t : Int) < (refs.length : Int) := by omega
                    obtain ⟨g, rfl, p0⟩ := (HR6.out.below hb).cell hlt
                    generalize hrt : refs.getD t 0 = y at p0
                    have hry : refs[t]? = some y := by rw [← hrt, List.getD_eq_getElem?_getD, List.getElem?_eq_getElem hlt]; rfl
                    have hml := Gr.meets_len (refs.take t) met
                    have hml2 : ((refs.take t).foldl meetT met).length ≤ 1000000 := by
                      have h1 := H4.out.len
                      have h2 := HJO.out
                      have h3 := HOL.out
                      have h4 := HRL.out
                      rw [List.length_take] at hml
                      omega
                    have HME := Lib.hid (refMeet_any ((refs.take t).foldl meetT met) y wx W3.heap.size _ hml2 (Nat.le_trans (Nat.le_trans H4.out.hb.size HBZ.out.size) (Nat.le_trans HB6.out.size hb.size)) hrow)
                    have HNX : Hid (meetT ((refs.take t).foldl meetT met) y = (refs.take (t + 1)).foldl meetT met) := by
                      show _ = _
                      rw [List.take_add_one, hry, Option.toList_some, List.foldl_append]
                      rfl
                    have HLT := Lib.hid hlt
                    clear ht hrow hown hb hlt hml hml2 hry hrt
                    go_wp2_with (go_at_call 32; refine HME.out.mono ?_; clear HME; rintro e w7 ⟨v7, rfl, hr7, hb7, ho7⟩; have HR7 := Lib.hid hr7; have HB7 := Lib.hid hb7; have HO7 := Lib.hid ho7; clear hr7 hb7 ho7)
                    go_roundg (gk - 1)
                    case measure => have := HT.out; have := HLT.out; omega
                    case rel =>
                      refine ⟨t + 1, by go_num, by have := HT.out; have := HLT.out; omega, by rw [← HNX.out]; exact HR7.out, ?_, HB.out.trans (HB7.out.mono HB.out.size)⟩
                      rcases HO7.out with h | h
                      · rw [h]; exact HOWN.out
                      · exact .inr fun k hk => Nat.le_trans HB.out.size (h k hk)
                  · have t1 : ¬ (t : Int) < (refs.length : Int) := by omega
                    rw [List.take_of_length_le (show refs.length ≤ t by omega)] at HROW
                    clear ht hrow hown hb hlt
                    have hyx : Below wy.heap.size wy wx := HBZ.out.trans ((HB6.out.trans (HB.out.mono HB6.out.size)).mono HBZ.out.size)
                    have hcx : Below wc.heap.size wc wx := HB6.out.trans (HB.out.mono HB6.out.size)
                    have HYX := Lib.hid hyx
                    have s3y : W3.heap.size ≤ wy.heap.size := H4.out.hb.size
                    have sw3 : w.heap.size ≤ W3.heap.size := BW3.out.size
                    have syx := hyx.size
                    have hvl : ∀ k, (Value.slice av vals.length cv).ownBlock = some k → W3.heap.size ≤ k ∧ k < wy.heap.size := fun k hk => ⟨H4.out.vrow.own hk, H4.out.vrow.lt hk⟩
                    have HVL := Lib.hid hvl
                    have hvr : VRow wx W3.heap.size (fun b => b < w.heap.size) (.slice av vals.length cv) vals := H4.out.vrow.chg (below_chg hyx) (by simp) (fun b hb => ⟨by omega, by simp⟩)
                    have HVR := Lib.hid hvr
                    have HVX : Hid (ValIs wx (fun b => b < w.heap.size) o.2 (vval o.2 x.ao x.cap)) := HV.out.below (HBW.out.trans (hcx.mono HBW.out.size)) (fun b h => h)
                    have HSX : Hid (W3.heap.size ≤ wx.heap.size ∧ w.heap.size ≤ wx.heap.size ∧ w.heap.size ≤ W3.heap.size) := ⟨by omega, by omega, sw3⟩
                    have HL6 : Hid (wy.heap.size ≤ w6.heap.size) := Nat.le_trans HBZ.out.size HB6.out.size
                    obtain ⟨c1, c2', c3, c4⟩ := HC.out wx hcx
                    have hvl2 : vals.length ≤ 1000000 := by rw [H4.out.vlen]; have := HJO.out; omega
                    have HVL2 := Lib.hid hvl2
                    clear hyx hcx s3y sw3 syx hvl hvr hvl2
                    go_wp2_with (at_builtin; refine wpList_appv (w := wx.alloc (.cells #[.int .i64 o.2.kind, .int .i64 o.2.num, .string o.2.text, .slice x.ao o.2.kids.length x.cap] 47)) (N := W3.heap.size) (P := fun b => b < w.heap.size) (v := .slice av vals.length cv) (l := vals) (t := o.2) (p := (x.ao, x.cap)) (ad := ⟨wx.heap.size, 0, none⟩) (c := 1) rfl _ _ rfl rfl (HVR.out.chg ((Chg.refl [] wx).alloc _) (by simp) (fun b hb => ⟨Nat.lt_of_lt_of_le hb HSX.out.2.1, by simp⟩)) rfl (cell_four_newG wx _ _ _ _ _) (HVX.out.chg ((Chg.refl [] wx).alloc _) (fun b hb => ⟨Nat.lt_of_lt_of_le hb HSX.out.2.1, by simp⟩)) (by have := HSX.out; simp; omega) HVL2.out (fun b hb => ⟨by have := HSX.out; simp; omega, fun e => by have := (HVL.out b e).1; have := HSX.out; omega⟩) ?_; intro a9 c9 w9 hr9 ho9; have HR9 := Lib.hid hr9; have HO9 := Lib.hid ho9; clear hr9 ho9)
                    have hq2 : ((q : Int) + 2) = ((2 * (j + 1) : Nat) : Int) := by have := HQ.out; omega
                    go_roundg f
                    case measure => omega
                    case rel =>
                      have ba : Below W3.heap.size wx (wx.alloc (.cells #[.int .i64 o.2.kind, .int .i64 o.2.num, .string o.2.text, .slice x.ao o.2.kids.length x.cap] 47)) := (Below.refl _ _).alloc HSX.out.1 _
                      have b9 : Below W3.heap.size wx w9 := ba.trans (HO9.out.below (by have := HSX.out; simp; omega) (fun k hk => (HVL.out k hk).1))
                      have hpre : met <+: refs.foldl meetT met := Gr.meets_pre
                      have hple := hpre.length_le
                      have hget : ∀ k, k < met.length → (refs.foldl meetT met).getD k 0 = met.getD k 0 := fun k hk => by
                        obtain ⟨l, hl⟩ := hpre
                        rw [← hl, List.getD_eq_getElem?_getD, List.getD_eq_getElem?_getD, List.getElem?_append_left hk]
                      have hlt13 : ∀ k, (u13).ownBlock = some k → k < wx.heap.size := fun k hk => irow_lt HROW.out hk
                      have hap : ∀ k, (Value.slice av vals.length cv).ownBlock = some k → (u13).ownBlock ≠ some k := fun k hk h13 => by
                        rcases HOWN.out with e | h
                        · rw [e] at h13; exact H4.out.apart k hk h13
                        · have := h k h13; have := (HVL.out k hk).2; have := HL6.out; omega
                      have hls := Gr.meets_len refs met
                      refine ⟨j + 1, refs.foldl meetT met, vals ++ [o.2], by rw [hq2], ⟨by have := H4.out.cnt; omega, ?_, Gr.meets_nodup H4.out.nd, fun k hk => ?_, by have := HJ.out; omega, by have := H4.out.len; have := HRL.out; omega, by rw [List.length_append, H4.out.vlen]; rfl, fun v hv => ?_, ?_, HR9.out, fun k hk h13 => ?_, H4.out.hb.trans ((HYX.out.mono H4.out.hb.size).trans b9)⟩⟩
                      · rw [H4.out.run, bfs, HID.out]
                        simp only [HF.out, HRFS.out]
                      · by_cases hkj : k < j
                        · rw [hget k (by have := HJ.out; omega)]
                          exact H4.out.found k hkj
                        · have e : k = j := by omega
                          rw [e, hget j HJ.out, HGD.out]
                          exact ⟨_, HF.out⟩
                      · rw [List.mem_append, List.mem_singleton] at hv
                        rcases hv with hv | rfl
                        · exact H4.out.vin v hv
                        · exact ⟨o, HMEM.out, rfl⟩
                      · have h1 := irow_chg HROW.out ((Chg.refl [] wx).alloc (.cells #[.int .i64 o.2.kind, .int .i64 o.2.num, .string o.2.text, .slice x.ao o.2.kids.length x.cap] 47)) (by simp)
                        exact irow_chg h1 HO9.out.1 (fun k hk h => hap k (by simpa using h) hk)
                      · rcases HO9.out.2 with e | ⟨g, e, hg⟩
                        · rw [e] at hk; exact hap k hk h13
                        · rw [hk] at e; cases e
                          have := hlt13 k h13
                          simp at hg
                          omega
          · have hjl : j = met.length := by have := h4.le; omega
            have hrun : makeT roots objs = (⟨s.map (renum met), vals.map (mvT met)⟩, 0) := by
              have hgk : ∃ f, gk = f + 1 := ⟨gk - 1, by have := h4.cnt; omega⟩
              obtain ⟨f, rfl⟩ := hgk
              rw [HMK2.out, h4.run, bfs, List.getElem?_eq_none (by omega)]
            have q1 : ¬ (q : Int) < (L : Int) := by omega
            have HRUN := Lib.hid hrun
            have HJL := Lib.hid hjl
            clear h4 hlen hq hL hL2 hj hjo hjl hrun HMK2
            go_upto_block 10 with (fail)
            have hml : met.length ≤ 100 := by have := HJL.out; have := HOL.out; have := HJO.out; omega
            have HML := Lib.hid hml
            have hvl : vals.length ≤ 100 := by rw [H4.out.vlen]; have := HJO.out; omega
            have vl1 : (vals.length : Int) ≤ 100 := by omega
            have hzg : wy.heap[Bg]? = some (.cells #[.slice none 0 0, .slice none 0 0] 37 (0, 0)) := (H4.out.hb.block _ (lt_of_block ZG.out)).trans ZG.out
            have hzr : zGr wy w.heap.size := (H4.out.hb.block _ (lt_of_block ZR.out)).trans ZR.out
            have HZG := Lib.hid hzg
            have HZR := Lib.hid hzr
            have HBGW : Hid (w.heap.size < Bg ∧ Bg < W3.heap.size ∧ W3.heap.size ≤ wy.heap.size) := ⟨Nat.lt_of_lt_of_le HWC.out HBG.out, lt_of_block ZG.out, H4.out.hb.size⟩
            clear hml hvl hzg hzr
            go_wp2
            go_loopg [21] vals.length (fun gk s21 wx => Rm10 wy Bg met vals gk s21 wx)
            case atStart => exact ⟨0, .slice none 0 0, rfl, by omega, HZG.out, VRow.nil _ _ _, Chg.refl _ _⟩
            case round =>
              rename World => wx
              obtain ⟨t, og, rfl, ht, hbg, hor, hch⟩ := hrel
              have HT := Lib.hid ht
              have HBG1 := Lib.hid hbg
              have HOR := Lib.hid hor
              have HCH := Lib.hid hch
              have t0' : (0 : Int) ≤ (t : Int) := by omega
              have hrow := irow_chg H4.out.row hch (fun k hk => by have := H4.out.row.2 k hk; have := HBGW.out; simp; omega)
              have HROW := Lib.hid hrow
              by_cases hlt : t < vals.length
              · have t1' : (t : Int) < (vals.length : Int) := by omega
                obtain ⟨v, hv⟩ : ∃ v, vals[t]? = some v := ⟨_, List.getElem?_eq_getElem hlt⟩
                have hvr := H4.out.vrow.chg hch (fun k hk => by have := H4.out.vrow.own hk; have := HBGW.out; simp; omega) (fun b hb => ⟨by have := HBGW.out; omega, by have := HBGW.out; simp; omega⟩)
                obtain ⟨b, at0, ct0, rfl, hbl, hbM, t0, t1, t2, t3, htv⟩ := hvr.get hv
                obtain ⟨oo, hoo, hov⟩ := H4.out.vin v (List.mem_of_getElem? hv)
                have hvs : v.sz ≤ 1000 := by rw [← hov]; exact HSZ.out oo hoo
                have hN : w.heap.size ≤ wx.heap.size := by have := HBGW.out; have := hch.size; omega
                obtain ⟨ao', co, eo⟩ := hor.form
                rw [List.length_map, List.length_take, Nat.min_eq_left (by omega)] at eo
                subst eo
                obtain ⟨mb, hmb⟩ : ∃ mb, (v.move (firstP (pairs met))).isSome = mb := ⟨_, rfl⟩
                have HMV : Hid (Calls Tryz.prog 34 #[.agg #[.int .i64 v.kind, .int .i64 v.num, .string v.text, .slice at0 v.kids.length ct0], .slice am L cm] wx fun e w' => ∃ v5, e = .returned (.tuple #[v5, .bool mb]) ∧ ValIs w' (fun b => (False ∨ wx.heap.size ≤ b) ∧ b < w'.heap.size) (mvT met v) v5 ∧ Below wx.heap.size wx w') := by
                  have h := refMove_walk (pairs met) W3.heap.size (.slice am L cm) (by rw [Gr.pairs_len]; have := HML.out; omega) (pairsF_wf2 met 1 (by have := HML.out; omega)) v.sz v _ wx (fun b => b < w.heap.size) (Nat.le_refl _) (by omega) htv (fun b hb => Nat.lt_of_lt_of_le hb hN) hrow
                  unfold MoveEnd at h
                  rw [hmb] at h
                  exact h
                have HV := Lib.hid hv
                have HLT := Lib.hid hlt
                clear ht hbg hor hch hrow hlt hv hvr hbl hbM htv hoo hov hvs hN hmb
                go_upto_region 36 with (go_at_call 34; refine HMV.out.mono ?_; clear HMV; rintro e w5 ⟨v5, rfl, hv5, hb5⟩; obtain ⟨a5, c5, rfl⟩ := tame_form hv5; have HV5 := Lib.hid hv5; have HB5 := Lib.hid hb5; clear hv5 hb5)
                obtain ⟨W2, hW2⟩ : ∃ W, W = w5.alloc (.cells #[.int .i64 (mvT met v).kind, .int .i64 (mvT met v).num, .string (mvT met v).text, .slice a5 (mvT met v).kids.length c5] 47) := ⟨_, rfl⟩
                obtain ⟨pb, hpb⟩ : ∃ p, p = w5.heap.size := ⟨_, rfl⟩
                have hb2 : Below w5.heap.size w5 W2 := by rw [hW2]; exact (Below.refl _ _).alloc (Nat.le_refl _) _
                have hpbz : W2.heap[pb]? = some (.cells #[.int .i64 (mvT met v).kind, .int .i64 (mvT met v).num, .string (mvT met v).text, .slice a5 (mvT met v).kids.length c5] 47 (0, 0)) := by rw [hW2, hpb]; exact World.alloc_heap_new _ _
                have hbx2 : Below wx.heap.size wx W2 := HB5.out.trans (hb2.mono HB5.out.size)
                have zg := (hbx2.block _ (lt_of_block HBG1.out)).trans HBG1.out
                have y1 : W2.cell? ⟨Bg, 1, none⟩ = some (.slice ao' t co) := by unfold World.cell?; rw [zg]; rfl
                have y2 : ∀ i, W2.frozen? ⟨Bg, i, none⟩ = false := fun i => by simp [World.frozen?, zg]
                obtain ⟨x0, x1, x2, x3, _⟩ := hdr4_cells hpbz
                rw [← hW2, ← hpb]
                have hs4 : wy.heap.size ≤ wx.heap.size := HCH.out.size
                have hs2 : wx.heap.size ≤ W2.heap.size := hbx2.size
                have hown : ∀ k, (Value.slice ao' t co).ownBlock = some k → wy.heap.size ≤ k ∧ k < wx.heap.size := fun k hk => ⟨HOR.out.own hk, HOR.out.lt hk⟩
                have hr2 : VRow W2 wy.heap.size (fun b => wy.heap.size ≤ b ∧ b < W2.heap.size ∧ (Value.slice ao' t co).ownBlock ≠ some b) (.slice ao' t co) ((vals.take t).map (mvT met)) := (HOR.out.chg (below_chg hbx2) (by simp) (fun b hb => ⟨hb.2.1, by simp⟩)).mono (fun b hb => ⟨hb.1, Nat.lt_of_lt_of_le hb.2.1 hs2, hb.2.2⟩)
                have hv2 : ValIs W2 (fun b => wy.heap.size ≤ b ∧ b < W2.heap.size ∧ (Value.slice ao' t co).ownBlock ≠ some b) (mvT met v) (vval (mvT met v) a5 c5) := (HV5.out.below hb2 (fun b hb => hb.2)).mono (fun b hb => by
                  have h1 : wx.heap.size ≤ b := by rcases hb.1 with h | h; exact absurd h (by simp); exact h
                  exact ⟨by omega, Nat.lt_of_lt_of_le hb.2 hb2.size, fun e => by have := (hown b e).2; omega⟩)
                have ll : ((vals.take t).map (mvT met)).length = t := by rw [List.length_map, List.length_take]; have := HLT.out; omega
                have HS4 := Lib.hid (And.intro hs4 hs2)
                have HOWN := Lib.hid hown
                have HBX2 := Lib.hid hbx2
                have HR2 := Lib.hid hr2
                have HV2 := Lib.hid hv2
                have HZ2 := Lib.hid zg
                have HLL := Lib.hid ll
                clear hW2 hpb hb2 hpbz hbx2 zg hs4 hs2 hown hr2 hv2 ll HV5 HB5
                go_wp2_with (at_builtin; refine wpList_appv (w := W2.alloc (.cells #[.int .i64 (mvT met v).kind, .int .i64 (mvT met v).num, .string (mvT met v).text, .slice a5 (mvT met v).kids.length c5] 47)) (N := wy.heap.size) (P := fun b => wy.heap.size ≤ b ∧ b < W2.heap.size ∧ (Value.slice ao' t co).ownBlock ≠ some b) (v := .slice ao' t co) (l := (vals.take t).map (mvT met)) (t := mvT met v) (p := (a5, c5)) (ad := ⟨W2.heap.size, 0, none⟩) (c := 1) rfl _ _ rfl rfl (HR2.out.chg ((Chg.refl [] W2).alloc _) (by simp) (fun b hb => ⟨hb.2.1, by simp⟩)) rfl (cell_four_newG W2 _ _ _ _ _) (HV2.out.chg ((Chg.refl [] W2).alloc _) (fun b hb => ⟨hb.2.1, by simp⟩)) (by have := HS4.out; simp; omega) (by rw [HLL.out]; have := HLT.out; omega) (fun b hb => ⟨by have := hb.2.1; simp; omega, hb.2.2⟩) ?_; intro a9 c9 w9 hr9 ho9; rw [HLL.out] at hr9 ho9 ⊢; have HR9 := Lib.hid hr9; have HO9 := Lib.hid ho9; have z9 := (ho9.1.block Bg (by have := lt_of_block HZ2.out; simp; omega) (fun h => by have := (HOWN.out Bg (by simpa using h)).1; have := HBGW.out; omega)).trans ((Below.heap_alloc W2 _ _ (lt_of_block HZ2.out)).trans HZ2.out); have HZ9 := Lib.hid z9; have y0 := (cells2 z9).1; have y1 := (cells2 z9).2.1; have y2 := (cells2 z9).2.2; clear hr9 ho9 z9)
                have hz10 := (heap_setCell_same w9 Bg 1 _ _ (.slice a9 (t + 1) c9) HZ9.out).trans rfl
                have hc10 : Chg [Bg] w9 (w9.setCell ⟨Bg, 1, none⟩ (.slice a9 (t + 1) c9)) := (Chg.refl _ _).setCell (.inl (by simp)) _
                generalize w9.setCell ⟨Bg, 1, none⟩ (.slice a9 (t + 1) c9) = w10 at hz10 hc10 ⊢
                have hs9 : W2.heap.size + 1 ≤ w9.heap.size := by have := HO9.out.1.size; simpa using this
                have ho9' : ∀ k, (Value.slice a9 (t + 1) c9).ownBlock = some k → (Value.slice ao' t co).ownBlock = some k ∨ W2.heap.size + 1 ≤ k := fun k hk => by
                  rcases HO9.out.2 with e | ⟨q, e, hq⟩
                  · exact .inl (e ▸ hk)
                  · rw [hk] at e; cases e; exact .inr (by simpa using hq)
                go_roundg (gk - 1)
                case measure => have := HT.out; have := HLT.out; omega
                case rel =>
                  have hss := HS4.out
                  have hbg := HBGW.out
                  refine ⟨t + 1, _, by go_num, by have := HT.out; have := HLT.out; omega, hz10, ?_, ?_⟩
                  · rw [List.take_add_one, HV.out, List.map_append]
                    have hm : VRow w9 wy.heap.size (fun b => wy.heap.size ≤ b ∧ b < w9.heap.size ∧ (Value.slice a9 (t + 1) c9).ownBlock ≠ some b) (.slice a9 (t + 1) c9) (List.map (mvT met) (vals.take t) ++ [mvT met v]) := HR9.out.mono (fun b hb => ⟨hb.1, by have := hb.2.1; omega, fun h => by
                      rcases ho9' b h with e | e
                      · exact hb.2.2 e
                      · have := hb.2.1; omega⟩)
                    refine (hm.chg hc10 (fun k hk => ?_) (fun b hb => ⟨hb.2.1, ?_⟩)).mono (fun b hb => ⟨hb.1, Nat.lt_of_lt_of_le hb.2.1 hc10.size, hb.2.2⟩)
                    · simp only [List.mem_singleton]
                      rcases ho9' k hk with e | e
                      · have := (HOWN.out k e).1; omega
                      · omega
                    · simp only [List.mem_singleton]
                      have := hb.1
                      omega
                  · exact (((HCH.out.trans (below_chg HBX2.out) (fun k hk => by cases hk)).alloc _).trans HO9.out.1 (fun k hk => .inr (HOWN.out k (by simpa using hk)).1)).trans hc10 (fun k hk => .inl hk)
              · have t1' : ¬ (t : Int) < (vals.length : Int) := by omega
                have ho := HOR.out
                rw [List.take_of_length_le (show vals.length ≤ t by omega)] at ho
                have HO := Lib.hid ho
                obtain ⟨ao', co, eo⟩ := ho.form
                rw [List.length_map] at eo
                subst eo
                clear ho ht hbg hor hch hrow hlt HOR
                go_upto_block 12 with (fail)
                have hmr : IRow wx W3.heap.size (.slice am L cm) (flatP (pairs met)) := HROW.out
                have hsr : RtRow 66 wx wc.heap.size (.slice a2 s.length c2) s := (R3.out.below H4.out.hb).chg HCH.out (fun k hk => by have := HSB.out k hk; simp; omega)
                have hown2 : ∀ k, (Value.slice a2 s.length c2).ownBlock = some k → k < Bg ∧ w.heap.size < k := fun k hk => ⟨HSB.out k hk, Nat.lt_of_lt_of_le HWC.out (R3.out.2 k hk)⟩
                have HMR := Lib.hid hmr
                have HSR := Lib.hid hsr
                have HO2 := Lib.hid hown2
                have hzr2 := (HCH.out.block w.heap.size (lt_of_block HZR.out) (by have := HBGW.out; simp; omega)).trans HZR.out
                have HZR2 := Lib.hid hzr2
                have HBW5 : Hid (Below w.heap.size w wx) := by
                  have h := HBN3.out _ H4.out.hb
                  exact h.trans (HCH.out.below h.size (fun k hk => by have := HBGW.out; simp at hk; omega))
                have HL5 : Hid (wy.heap.size ≤ wx.heap.size) := HCH.out.size
                clear hmr hsr hown2 hzr2
                go_wp2
                go_loopg [24] s.length (fun gk s24 wq => Rm12 wx wc.heap.size Bg (.slice a2 s.length c2) (.slice ao' vals.length co) met s gk s24 wq)
                case atStart => exact ⟨0, .slice none 0 0, rfl, by omega, by simpa [rootsAt] using HSR.out, HBG1.out, RtRow.nil _ _ _, Chg.refl _ _⟩
                case round =>
                  rename World => wq
                  obtain ⟨i, or, rfl, hi, hsr, hbg, hor, hch⟩ := hrel
                  have HI := Lib.hid hi
                  have HSR1 := Lib.hid hsr
                  have HBG2 := Lib.hid hbg
                  have HOR := Lib.hid hor
                  have HCH2 := Lib.hid hch
                  have i0' : (0 : Int) ≤ (i : Int) := by omega
                  obtain ⟨aor, cor, eor, _⟩ := hor.at_
                  rw [List.length_map, List.length_take] at eor
                  by_cases hlt : i < s.length
                  · have i1' : (i : Int) < (s.length : Int) := by omega
                    rw [Nat.min_eq_left (by omega)] at eor
                    subst eor
                    obtain ⟨r, hr⟩ : ∃ r, s[i]? = some r := ⟨_, List.getElem?_eq_getElem hlt⟩
                    have hra := rootsAt_get (met := met) hr
                    have hral := rootsAt_len s i met
                    obtain ⟨ao'', cap'', e, h5, h6, h7, h8⟩ := hsr.1.form
                    rw [hral] at e
                    cases e
                    cases a2 with
                    | none => have := (h7 rfl).1; omega
                    | some a =>
                      obtain ⟨g, rfl, hg, hgo⟩ := h8 a rfl
                      obtain ⟨b, off, e2, d0, d1, d2⟩ := hsr.at_.look' hra
                      cases e2
                      rw [Nat.zero_add] at d0 d1 d2
                      have hfz : ∀ j, wq.frozen? ⟨g, j, none⟩ = false := by
                        rcases hsr.1.2 with ⟨hv, _⟩ | ⟨g', cap', cur, hv, hb, hblk, _⟩
                        · cases hv
                        · have e9 : g = g' := by injection hv with q1; injection q1 with q1; injection q1
                          subst e9
                          exact fun j => by simp [World.frozen?, hblk]
                      have hgl := HO2.out g rfl
                      have hmr := irow_chg HMR.out hch (fun k hk => by have := HMR.out.2 k hk; have := HBGW.out; simp only [Value.ownBlock, Option.toList_some, List.mem_cons, List.not_mem_nil, or_false]; omega)
                      have HNM : Hid (Calls Tryz.prog 35 #[.slice am L cm, .int .i64 r.id] wq fun e w' => e = .returned (.int .i64 (numOf met r.id)) ∧ wq = w') := number_any (pairs met) r.id wq W3.heap.size _ (by rw [Gr.pairs_len]; have := HML.out; omega) hmr
                      have hst := row_store (r := r) hsr rfl hr
                      have hc3 : Chg [g] wq (wq.setCell ⟨g, i * 3 + 2, none⟩ (.int .i64 (numOf met r.id))) := (Chg.refl [g] wq).setCell (.inl (by simp)) _
                      have HST := Lib.hid hst
                      have HC3 := Lib.hid hc3
                      have HGL := Lib.hid hgl
                      have HR := Lib.hid hr
                      have HLT := Lib.hid hlt
                      clear hi hsr hbg hor hch hlt hra hral h5 h6 h7 h8 hg hgo hgl hmr hst hc3 hr d0 d1
                      go_upto_region 41 with (go_at_call 35; refine HNM.out.mono ?_; clear HNM; rintro e w3 ⟨rfl, rfl⟩)
                      clear d2 hfz
                      obtain ⟨w3, hw3⟩ : ∃ W, W = wq.setCell ⟨g, i * 3 + 2, none⟩ (.int .i64 (numOf met r.id)) := ⟨_, rfl⟩
                      rw [← hw3] at HST HC3 ⊢
                      have z3 := (HC3.out.block Bg (lt_of_block HBG2.out) (by have := HGL.out; simp; omega)).trans HBG2.out
                      have HZ3 := Lib.hid z3
                      have ho3 := HOR.out.chg HC3.out (fun k hk => by have := HOR.out.2 k hk; have := HGL.out; have := HBGW.out; have := HL5.out; simp; omega)
                      have HO3 := Lib.hid ho3
                      have hS : ∀ W, Below w3.heap.size w3 W → W.cell? ⟨Bg, 0, none⟩ = some (.slice aor i cor) ∧ W.cell? ⟨g, i * 3, none⟩ = some (.string (bytes r.name)) ∧ W.cell? ⟨g, i * 3 + 1, none⟩ = some (.string (bytes r.typ)) ∧ W.cell? ⟨g, i * 3 + 2, none⟩ = some (.int .i64 (numOf met r.id)) := fun W hW => by
                        have z4 := (hW.block Bg (lt_of_block HZ3.out)).trans HZ3.out
                        have hst := HST.out.below hW
                        obtain ⟨b, off, e2, d0, d1, d2⟩ := hst.at_.look' (rootsAt_done (met := met) HR.out)
                        cases e2
                        rw [Nat.zero_add] at d0 d1 d2
                        exact ⟨(cells2 z4).1, d0, d1, d2⟩
                      have hll : ((s.take i).map (renum met)).length = i := by rw [List.length_map, List.length_take]; have := HLT.out; omega
                      have HLL := Lib.hid hll
                      have HS9 := Lib.hid hS
                      have hsz3 : wx.heap.size ≤ w3.heap.size := Nat.le_trans HCH2.out.size HC3.out.size
                      have HSZ3 := Lib.hid hsz3
                      obtain ⟨x0, x1, x2, x3⟩ := hS w3.drew (Below.refl _ _).drew
                      have xo : ∀ o : Obj, (w3.alloc o).drew.cell? ⟨Bg, 0, none⟩ = some (.slice aor i cor) := fun o => (hS _ (((Below.refl _ _).alloc (Nat.le_refl _) o).drew)).1
                      clear hw3 z3 ho3 hS hll hsz3
                      have HREL : Hid (∀ (a9 : Option Addr) (c9 : Nat) (w9 : World), RtRow 66 w9 wx.heap.size (.slice a9 (i + 1) c9) ((s.take i).map (renum met) ++ [renum met r]) → Chg (Value.slice aor i cor).ownBlock.toList (w3.drew.alloc (.cells #[.string (bytes r.name), .string (bytes r.typ), .int .i64 (numOf met r.id)] 66)) w9 → w9.heap[Bg]? = some (.cells #[.slice aor i cor, .slice ao' vals.length co] 37 (0, 0)) →
          Rm12 wx wc.heap.size Bg (.slice (some ⟨g, 0, none⟩) s.length c2) (.slice ao' vals.length co) met s (gk - 1) (.int .i64 ((i : Int) + 1)) (w9.setCell ⟨Bg, 0, none⟩ (.slice a9 (i + 1) c9))) := fun a9 c9 w9 hr9 hc9 hz9 => by
                        have hgl := HGL.out
                        have hbw := HBGW.out
                        have hl5 := HL5.out
                        have hown : ∀ k, (Value.slice aor i cor).ownBlock = some k → wx.heap.size ≤ k := fun k hk => HOR.out.2 k hk
                        have ha : Chg [] w3 (w3.drew.alloc (.cells #[.string (bytes r.name), .string (bytes r.typ), .int .i64 (numOf met r.id)] 66)) := ((Chg.refl [] w3).drewN 1).alloc _
                        have h10 : Chg [Bg] w9 (w9.setCell ⟨Bg, 0, none⟩ (.slice a9 (i + 1) c9)) := (Chg.refl _ _).setCell (.inl (by simp)) _
                        refine ⟨i + 1, _, by go_num, by have := HI.out; have := HLT.out; omega, ?_, (heap_setCell_same w9 Bg 0 _ _ _ hz9).trans rfl, ?_, ?_⟩
                        · refine ((HST.out.chg ha (by simp)).chg hc9 (fun k hk h => ?_)).chg h10 (fun k hk => ?_)
                          · simp only [Value.ownBlock, Option.some.injEq] at hk
                            have := hown k (by simpa using h)
                            omega
                          · simp only [Value.ownBlock, Option.some.injEq] at hk
                            simp only [List.mem_singleton]
                            omega
                        · rw [List.take_add_one, HR.out, Option.toList_some, List.map_append]
                          exact hr9.chg h10 (fun k hk => by have := hr9.2 k hk; simp only [List.mem_singleton]; omega)
                        · refine ((((HCH2.out.trans HC3.out (fun k hk => .inl ?_)).trans ha (fun k hk => by cases hk)).trans hc9 (fun k hk => .inr (hown k (by simpa using hk)))).trans h10 (fun k hk => .inl ?_))
                          · simp only [List.mem_singleton] at hk
                            subst hk
                            simp [Value.ownBlock]
                          · simp only [List.mem_singleton] at hk
                            subst hk
                            simp
                      go_region_law (first | (refine step_root (w := w3.drew.alloc (.cells #[.string (bytes r.name), .string (bytes r.typ), .int .i64 (numOf met r.id)] 66)) (N := wx.heap.size) (l := (s.take i).map (renum met)) (r := renum met r) (v := .slice aor i cor) (ad := ⟨w3.heap.size, 0, none⟩) (c := 1) Tryz.underlying22 infoRt8 rfl _ _ rfl rfl ((HO3.out.below (Below.refl _ _).drew).below ((Below.refl _ _).alloc (Nat.le_refl _) _)) rfl (cell_three_new w3.drew _ _ _ _) (by have := HSZ3.out; simp; omega) (by rw [HLL.out]; have := HLT.out; have := HSL.out; omega) ?_; rw [HLL.out]; intro a9 c9 w9 hr9 hb9 hc9; have HR9 := Lib.hid hr9; have HC9 := Lib.hid hc9; have z9 := (hc9.block Bg (by have := lt_of_block HZ3.out; simp; omega) (fun h => by have := HOR.out.2 Bg (by simpa using h); have := HBGW.out; have := HL5.out; omega)).trans ((Below.heap_alloc w3.drew _ _ (by simpa using lt_of_block HZ3.out)).trans HZ3.out); have HZ9 := Lib.hid z9; have y0 := (cells2 z9).1; have y1 := (cells2 z9).2.1; have y2 := (cells2 z9).2.2; clear hr9 hb9 hc9 z9))
                      all_goals go_wp2
                      all_goals go_roundg (gk - 1)
                      all_goals first
                        | exact HREL.out _ _ _ HR9.out HC9.out HZ9.out
                        | (have := HI.out; have := HLT.out; omega)
                  · have hil : i = s.length := by omega
                    have hz5 := (hch.block w.heap.size (by have := HBGW.out; have := HL5.out; omega) (by
                      intro hk
                      have := HBGW.out
                      rcases List.mem_cons.1 hk with e | hk
                      · omega
                      · have := (HO2.out w.heap.size (by simpa using hk)).2; omega)).trans HZR2.out
                    have hown3 : ∀ k ∈ (Bg :: (Value.slice a2 s.length c2).ownBlock.toList), w.heap.size < k := fun k hk => by
                      rcases List.mem_cons.1 hk with e | hk
                      · rw [e]; exact HBGW.out.1
                      · exact (HO2.out k (by simpa using hk)).2
                    have hbf : Below w.heap.size w wq := HBW5.out.trans (hch.below HBW5.out.size (fun k hk => Nat.le_of_lt (hown3 k hk)))
                    have hgen : ∀ k, wy.heap.size ≤ k → k ∉ (Bg :: (Value.slice a2 s.length c2).ownBlock.toList) := fun k h1 h => by
                      have := HBGW.out
                      rcases List.mem_cons.1 h with e | h
                      · omega
                      · have := (HO2.out k (by simpa using h)).1; omega
                    have hvr : VRow wq wy.heap.size (fun b => wy.heap.size ≤ b ∧ b < wq.heap.size ∧ (Value.slice ao' vals.length co).ownBlock ≠ some b) (.slice ao' vals.length co) (vals.map (mvT met)) :=
                      (HO.out.chg hch (fun k hk => hgen k (HO.out.own hk)) (fun b hb => ⟨hb.2.1, hgen b hb.1⟩)).mono fun b hb => ⟨hb.1, Nat.lt_of_lt_of_le hb.2.1 hch.size, hb.2.2⟩
                    have hrs : RtRow 66 wq wx.heap.size (.slice aor s.length cor) (s.map (renum met)) := by
                      have h := hor
                      rw [hil, List.take_length, eor, hil, Nat.min_self] at h
                      exact h
                    rw [hil, Nat.min_self] at eor
                    subst eor
                    have HVR := Lib.hid hvr
                    have HRS := Lib.hid hrs
                    have HBF := Lib.hid hbf
                    have HZ5 := Lib.hid hz5
                    obtain ⟨g0, g1, _⟩ := cells2 HBG2.out
                    obtain ⟨y0, y1, y2⟩ := cells2 hz5
                    have i9 : ¬ (i : Int) < (s.length : Int) := by omega
                    clear hi hsr hbg hor hch hlt hil hz5 hown3 hbf hgen hvr hrs
                    go_wp2
                    obtain ⟨zz, zc⟩ := two_stores (u := .slice aor s.length cor) (v := .slice ao' vals.length co) HZ5.out
                    generalize ((World.setCell wq _ _).setCell _ _) = wz at zz zc ⊢
                    have hload := graph_load zz
                    refine bodyPost_ret (v := .tuple #[.agg #[.slice aor s.length cor, .slice ao' vals.length co], .int .i64 0]) (by
                      simp only [results, Tryz.f10]
                      simp [hload, asAddr]) rfl ?_
                    rw [HRUN.out]
                    have hbw := HBGW.out
                    have hl5 := HL5.out
                    refine ⟨_, _, rfl, (HRS.out.chg zc (fun k hk => by have := HRS.out.2 k hk; simp only [List.mem_singleton]; omega)).at_, ?_, HBF.out.trans (zc.below HBF.out.size (by simp))⟩
                    exact (HVR.out.chg zc (fun k hk => by have := HVR.out.own hk; simp only [List.mem_singleton]; omega) (fun b hb => ⟨hb.2.1, by have := hb.1; simp only [List.mem_singleton]; omega⟩)).kids (fun b hb => Nat.lt_of_lt_of_le hb.2.1 zc.size) (fun k hk => Nat.lt_of_lt_of_le (HVR.out.lt hk) zc.size)
/-- The document's Make. -/
theorem refMake_any (w : World) (vr vo : Value) (roots : List RT) (obs : List OB) (objs : List (Int × VT)) (hr : RtAt w vr roots) (hl : roots.length ≤ 1000000) (hgd : ∀ r ∈ roots, Gd r)
    (ho : ObAt w vo obs) (hoi : ObsIs w (fun b => b < w.heap.size) obs objs) (hol : objs.length ≤ 100) (hsz : ∀ o ∈ objs, o.2.sz ≤ 1000) : Calls Tryz.prog 10 #[vr, vo] w (MakeEnd w (makeT roots objs)) := by
  by_cases h0 : (dirT roots).2 = 0
  · have hx : ∃ s, sortO roots [] = some s ∧ roots.length ≤ 100 := by
      unfold dirT at h0
      split at h0
      · exact absurd h0 (by decide)
      · rename_i hle
        cases hs : sortO roots [] with
        | none => rw [hs] at h0; exact absurd h0 (by decide)
        | some s => exact ⟨s, rfl, by omega⟩
    obtain ⟨s, hs, hle⟩ := hx
    have hp := (Gr.sortO_some .nil hs).2.1.length_eq
    rw [List.append_nil] at hp
    exact refMake_rest w vr vo roots s obs objs hr hl hgd h0 hs (by omega) ho hoi hol hsz
  · exact refMake_dir w vr vo roots objs hr hl hgd _ rfl h0
end Go.Proofs.YtenikoecnfbfoaaGreatDoor
/- Layer 8: what the laws ask, in plain words. -/
namespace Go.Proofs.YtenikoecnfbfoaaGreatDoor
namespace Gr
set_option linter.unusedVariables false
set_option linter.unusedSimpArgs false
mutual
theorem same_comm : ∀ a b : VT, a.same b = b.same a
  | .node k n s l, .node k' n' s' l' => by
    rw [VT.same, VT.same, sames_comm l l']
    simp only [eq_comm (a := k), eq_comm (a := n), eq_comm (a := s), eq_comm (a := s.toList)]
theorem sames_comm : ∀ a b : List VT, VT.sames a b = VT.sames b a
  | [], [] => rfl
  | [], _ :: _ => by rw [VT.sames, VT.sames] <;> simp
  | _ :: _, [] => by rw [VT.sames, VT.sames] <;> simp
  | x :: a, y :: b => by rw [VT.sames, VT.sames, same_comm x y, sames_comm a b]
end
theorem graphSame_comm (a b : GT) : graphSame a b = graphSame b a := by
  unfold graphSame
  rw [sames_comm, show decide (a.roots = b.roots) = decide (b.roots = a.roots) by simp [eq_comm]]
theorem graphSame_refl (a : GT) : graphSame a a = true := by unfold graphSame; simp [VT.sames_refl]
/-- A graph that is made: no roots, no objects. -/
theorem makeT_ok {roots : List RT} {objs : List (Int × VT)} (h : (makeT roots objs).2 = 0) : ∃ s met vals, (dirT roots).2 = 0 ∧ sortO roots [] = some s ∧ bfs objs (objs.length + 1) 0 ((s.map RT.id).foldl meetT []) [] = some (met, vals) ∧
    (makeT roots objs).1 = ⟨s.map fun r => ⟨r.name, r.typ, numOf met r.id⟩, vals.map fun v => (v.move (firstP (pairs met))).getD zeroV⟩ := by
  unfold makeT at h ⊢
  split at h
  · rename_i h1; exact absurd h h1
  · rename_i h1
    have h1 : (dirT roots).2 = 0 := by simpa using h1
    rw [if_neg (by simpa using h1)]
    split at h
    · exact absurd h (by decide)
    · rename_i h2
      rw [if_neg h2]
      cases hs : sortO roots [] with
      | none => simp [hs] at h
      | some s =>
        simp only [hs] at h
        cases hb : bfs objs (objs.length + 1) 0 ((s.map RT.id).foldl meetT []) [] with
        | none => simp only [hb] at h; exact absurd h (by decide)
        | some p =>
          obtain ⟨met, vals⟩ := p
          exact ⟨s, met, vals, h1, rfl, hb, by simp only [hb]⟩
theorem bfs_len {objs : List (Int × VT)} : ∀ (f i : Nat) (met : List Int) (vals : List VT) (m : List Int) (v : List VT), bfs objs f i met vals = some (m, v) → v.length ≤ vals.length + f
  | 0, i, met, vals, m, v, h => by rw [bfs] at h; cases h; omega
  | f + 1, i, met, vals, m, v, h => by
    rw [bfs] at h
    split at h
    · cases h; omega
    · split at h
      · cases h
      · have := bfs_len f _ _ _ m v h
        rw [List.length_append, List.length_singleton] at this
        omega
theorem make_lens (roots : List RT) (objs : List (Int × VT)) : (makeT roots objs).1.roots.length ≤ roots.length ∧ (makeT roots objs).1.objs.length ≤ objs.length + 1 := by
  by_cases h : (makeT roots objs).2 = 0
  · obtain ⟨s, met, vals, _, hs, hb, e⟩ := makeT_ok h
    rw [e]
    have h1 := (sortO_some .nil hs).2.1.length_eq
    have h2 := bfs_len _ _ _ _ _ _ hb
    simp at h1 h2 ⊢
    omega
  · have : (makeT roots objs).1 = ⟨[], []⟩ := by
      unfold makeT at h ⊢
      split at h
      · rename_i h1; rw [if_pos h1]
      · rename_i h1
        rw [if_neg h1]
        split at h
        · rename_i h2; rw [if_pos h2]
        · rename_i h2
          rw [if_neg h2]
          cases hs : sortO roots [] with
          | none => rfl
          | some s =>
            simp only [hs] at h
            cases hb : bfs objs (objs.length + 1) 0 ((s.map RT.id).foldl meetT []) [] with
            | none => simp only [hb]
            | some p => obtain ⟨met, vals⟩ := p; simp [hb] at h
    rw [this]
    simp
theorem make_empty {roots : List RT} {objs : List (Int × VT)} (h : (makeT roots objs).2 = 0) : graphSame (makeT roots objs).1 ⟨[], []⟩ = decide ((makeT roots objs).1.roots.length = 0) := by
  obtain ⟨s, met, vals, _, _, hb, e⟩ := makeT_ok h
  rw [e]
  cases s with
  | nil =>
    simp only [List.map_nil, List.foldl_nil, bfs, List.getElem?_nil] at hb
    cases hb
    simp [graphSame, VT.sames]
  | cons r s => simp [graphSame]
end Gr
end Go.Proofs.YtenikoecnfbfoaaGreatDoor
/- Layer 8: what GraphMakes asks, in plain words: a graph's values are in form. -/
namespace Go.Proofs.YtenikoecnfbfoaaGreatDoor
set_option linter.unusedVariables false
set_option linter.unusedSimpArgs false
open Wr
theorem num_oneB {m : Int} (h1 : 1 ≤ m) (h2 : m ≤ 63) : (num m).length = 1 := by
  have hz : zig m = (2 * m).toNat := by unfold zig; split <;> omega
  unfold num
  rw [hz, var_small (by omega)]
  rfl
theorem num_posB (n : Int) : 1 ≤ (num n).length := by
  have := num_ne n
  cases h : num n with
  | nil => exact absurd h this
  | cons a b => simp
namespace VT
mutual
theorem move_kids {f : Int → Option Int} : ∀ (l l' : List VT), VT.moves f l = some l' → l'.length = l.length
  | [], l', h => by rw [VT.moves] at h; cases h; rfl
  | t :: l, l', h => by
    rw [VT.moves] at h
    cases ht : t.move f with
    | none => rw [ht] at h; cases h
    | some t' =>
      rw [ht] at h
      cases hl : VT.moves f l with
      | none => rw [hl] at h; cases h
      | some l2 =>
        rw [hl] at h
        cases h
        rw [List.length_cons, List.length_cons, move_kids l l2 hl]
end
mutual
theorem move_right {f : Int → Option Int} (hf : ∀ n m, f n = some m → 1 ≤ m ∧ m ≤ 63) : ∀ (t t' : VT) (d : Int), t.move f = some t' → t.right d = true → t'.right d = true ∧ t'.enc.length ≤ t.enc.length
  | .node k n s l, t', d, h, hr => by
    rw [VT.move] at h
    rw [VT.right_node, Bool.and_eq_true, Bool.and_eq_true] at hr
    by_cases hk : k = 5
    · subst hk
      rw [if_pos rfl] at h
      cases hn : f n with
      | none => rw [hn] at h; cases h
      | some m =>
        rw [hn] at h
        cases hl : VT.moves f l with
        | none => simp only [hl] at h; cases h
        | some l' =>
          simp only [hl] at h
          cases h
          have hm := hf n m hn
          have hlen := move_kids l l' hl
          obtain ⟨h1, h2⟩ := moves_right hf l l' (d + 1) hl hr.2
          refine ⟨?_, ?_⟩
          · rw [VT.right_node, Bool.and_eq_true, Bool.and_eq_true]
            refine ⟨⟨hr.1.1, ?_⟩, h1⟩
            have hfit := hr.1.2
            rw [hlen]
            simp only [fitsB] at hfit ⊢
            simp at hfit ⊢
            exact ⟨⟨⟨hm.1, by omega⟩, hfit.1.2⟩, hfit.2⟩
          · rw [VT.enc, VT.enc]
            have e1 := num_oneB hm.1 hm.2
            have e2 := num_posB n
            simp only [topOf, List.length_append, hlen] at h2 ⊢
            simp
            omega
    · rw [if_neg hk] at h
      cases hl : VT.moves f l with
      | none => simp only [hl] at h; cases h
      | some l' =>
        simp only [hl] at h
        cases h
        have hlen := move_kids l l' hl
        obtain ⟨h1, h2⟩ := moves_right hf l l' (d + 1) hl hr.2
        refine ⟨?_, ?_⟩
        · rw [VT.right_node, hlen, hr.1.1, hr.1.2, h1]; rfl
        · rw [VT.enc, VT.enc, hlen]
          simp only [List.length_append]
          omega
theorem moves_right {f : Int → Option Int} (hf : ∀ n m, f n = some m → 1 ≤ m ∧ m ≤ 63) : ∀ (l l' : List VT) (d : Int), VT.moves f l = some l' → VT.rights l d = true → VT.rights l' d = true ∧ (VT.encs l').length ≤ (VT.encs l).length
  | [], l', d, h, hr => by rw [VT.moves] at h; cases h; exact ⟨hr, Nat.le_refl _⟩
  | t :: l, l', d, h, hr => by
    rw [VT.moves] at h
    rw [VT.rights_cons, Bool.and_eq_true] at hr
    cases ht : t.move f with
    | none => rw [ht] at h; cases h
    | some t' =>
      rw [ht] at h
      cases hl : VT.moves f l with
      | none => simp only [hl] at h; cases h
      | some l2 =>
        simp only [hl] at h
        cases h
        obtain ⟨a1, a2⟩ := move_right hf t t' d ht hr.1
        obtain ⟨b1, b2⟩ := moves_right hf l l2 d hl hr.2
        refine ⟨by rw [VT.rights_cons, a1, b1]; rfl, ?_⟩
        rw [VT.encs, VT.encs, List.length_append, List.length_append]
        omega
end
end VT
namespace Gr
theorem bfs_met {objs : List (Int × VT)} : ∀ (f i : Nat) (met : List Int) (vals : List VT) (m : List Int) (v : List VT), bfs objs f i met vals = some (m, v) → i + f = objs.length + 1 → met.Nodup → i ≤ met.length → (∀ j, j < i → ∃ v, findO objs (met.getD j 0) = some v) → m.length ≤ objs.length
  | 0, i, met, vals, m, v, h, hc, hn, hi, hf => by
    have := bfs_bound hn hi hf
    omega
  | f + 1, i, met, vals, m, v, h, hc, hn, hi, hf => by
    have hb := bfs_bound hn hi hf
    rw [bfs] at h
    cases hm : met[i]? with
    | none =>
      rw [hm] at h
      cases h
      have := List.getElem?_eq_none_iff.1 hm
      omega
    | some id =>
      rw [hm] at h
      have hil := (List.getElem?_eq_some_iff.1 hm).1
      cases ho : findO objs id with
      | none => simp only [ho] at h; cases h
      | some t =>
        simp only [ho] at h
        have hpre : met <+: t.refs.foldl meetT met := meets_pre
        have hget : ∀ k, k < met.length → (t.refs.foldl meetT met).getD k 0 = met.getD k 0 := fun k hk => by
          obtain ⟨l, hl⟩ := hpre
          rw [← hl, List.getD_eq_getElem?_getD, List.getD_eq_getElem?_getD, List.getElem?_append_left hk]
        refine bfs_met f (i + 1) _ _ m v h (by omega) (meets_nodup hn) (by have := hpre.length_le; omega) (fun j hj => ?_)
        by_cases hji : j < i
        · rw [hget j (by omega)]; exact hf j hji
        · have e : j = i := by omega
          rw [e, hget i hil, List.getD_eq_getElem?_getD, hm]
          exact ⟨t, ho⟩
theorem zeroV_ok : (zeroV).right 1 = true ∧ (zeroV).enc.length ≤ 16384 := by
  constructor
  · simp [zeroV, VT.right_node, VT.rights_nil, fitsB, emptyB, wr]; decide
  · simp [zeroV, VT.enc, VT.encs, topOf, num, zig, var]
theorem make_err {roots : List RT} {objs : List (Int × VT)} (h : (makeT roots objs).2 ≠ 0) : (makeT roots objs).1 = ⟨[], []⟩ := by
  have hh := h
  unfold makeT at h ⊢
  split at h
  · rename_i h1; rw [if_pos h1]
  · rename_i h1
    rw [if_neg h1]
    split at h
    · rename_i h2; rw [if_pos h2]
    · rename_i h2
      rw [if_neg h2]
      cases hs : sortO roots [] with
      | none => rfl
      | some s =>
        simp only [hs] at h
        cases hb : bfs objs (objs.length + 1) 0 ((s.map RT.id).foldl meetT []) [] with
        | none => simp only [hb]
        | some p => obtain ⟨met, vals⟩ := p; simp [hb] at h
theorem make_right {roots : List RT} {objs : List (Int × VT)} (hl : objs.length ≤ 60) : ∀ t ∈ (makeT roots objs).1.objs, t.right 1 = true ∧ t.enc.length ≤ 16384 := by
  by_cases h : (makeT roots objs).2 = 0
  · have hany : ¬ (objs.any (fun o => decide (encErr o.2 ≠ 0))) = true := by
      intro ha
      unfold makeT at h
      split at h
      · rename_i h1; exact h1 h
      · simp [ha] at h
    obtain ⟨s, met, vals, _, _, hb, e⟩ := makeT_ok h
    rw [e]
    intro t ht
    obtain ⟨v, hv, rfl⟩ := List.mem_map.1 ht
    have hin := bfs_mem _ _ _ _ _ _ hb (fun x hx => by cases hx) v hv
    obtain ⟨o, ho, hov⟩ := hin
    have hok : encErr v = 0 := by
      simp only [List.any_eq_true, decide_eq_true_eq, not_exists, not_and, Decidable.not_not] at hany
      rw [← hov]
      exact hany o ho
    have hml := bfs_met _ 0 _ _ _ _ hb (by omega) (meets_nodup .nil) (Nat.zero_le _) (fun j hj => absurd hj (by omega))
    cases hm : v.move (firstP (pairs met)) with
    | none => exact zeroV_ok
    | some t' =>
      have hr := err_zero hok
      have := VT.move_right (f := firstP (pairs met)) (fun n m hnm => by
        by_cases hmem : n ∈ met
        · obtain ⟨c, c1, c2, c3⟩ := pairsF_some (l := met) (k := 1) hmem
          have e2 : firstP (pairs met) n = some (c : Int) := c3
          rw [hnm] at e2
          cases e2
          omega
        · have e2 : firstP (pairs met) n = none := pairsF_none hmem
          rw [hnm] at e2
          cases e2) v t' 1 hm hr.1
      exact ⟨this.1, by show t'.enc.length ≤ _; omega⟩
  · rw [make_err h]
    intro t ht
    cases ht
theorem make_names {roots : List RT} {objs : List (Int × VT)} : ∀ r ∈ (makeT roots objs).1.roots, r.name.length ≤ 1000 ∧ r.typ.length ≤ 1000 := by
  by_cases h : (makeT roots objs).2 = 0
  · obtain ⟨s, met, vals, _, hs, hb, e⟩ := makeT_ok h
    obtain ⟨_, hp, ho⟩ := sortO_some .nil hs
    rw [List.append_nil] at hp
    rw [e]
    intro r hr
    obtain ⟨r', hr', rfl⟩ := List.mem_map.1 hr
    have hok := List.all_eq_true.1 ho r' (hp.mem_iff.1 hr')
    simp only [RT.ok, Bool.and_eq_true, decide_eq_true_eq] at hok
    exact ⟨by simp only; omega, by simp only; omega⟩
  · rw [make_err h]
    intro r hr
    cases hr
end Gr
end Go.Proofs.YtenikoecnfbfoaaGreatDoor
/- Layer 8: the law GraphMakes: the walk. -/
namespace Go.Proofs.YtenikoecnfbfoaaGreatDoor
open Go.RowKit
set_option linter.unusedVariables false
set_option linter.unusedSimpArgs false
open Gr (RT GT makeT)
/-- The same graph in two boxes, and the objects that it was made of. -/
structure MmAt (w W : World) (p q : Nat) (a1 a2 b1 b2 : Option Addr) (c1 c2 d1 d2 : Nat) (g : GT) (v5 v1 : Value) (o : List (Int × VT)) : Prop where
  zp : W.heap[p]? = some (.cells #[.slice a1 g.roots.length c1, .slice a2 g.objs.length c2] 31 (0, 0))
  zq : W.heap[q]? = some (.cells #[.slice b1 g.roots.length d1, .slice b2 g.objs.length d2] 37 (0, 0))
  gr : RtAt W (.slice a1 g.roots.length c1) g.roots
  go : VsAt W (.slice a2 g.objs.length c2) g.objs
  hr : RtAt W (.slice b1 g.roots.length d1) g.roots
  ho : VsAt W (.slice b2 g.objs.length d2) g.objs
  i5 : ∃ N, OwRow 49 W N v5 o
  i1 : ∃ N, OwRow 50 W N v1 o
  hb : Below w.heap.size w W
section
variable {w W W' : World} {p q : Nat} {a1 a2 b1 b2 : Option Addr} {c1 c2 d1 d2 : Nat} {g : GT} {v5 v1 : Value} {o : List (Int × VT)}
theorem MmAt.below (s : MmAt w W p q a1 a2 b1 b2 c1 c2 d1 d2 g v5 v1 o) (hb : Below W.heap.size W W') : MmAt w W' p q a1 a2 b1 b2 c1 c2 d1 d2 g v5 v1 o := by
  obtain ⟨N, h5⟩ := s.i5
  obtain ⟨M, h1⟩ := s.i1
  exact ⟨(hb.block _ (lt_of_block s.zp)).trans s.zp, (hb.block _ (lt_of_block s.zq)).trans s.zq, s.gr.below hb, s.go.below hb, s.hr.below hb, s.ho.below hb, ⟨N, h5.below hb⟩, ⟨M, h1.below hb⟩, s.hb.trans (hb.mono s.hb.size)⟩
theorem MmAt.cells (s : MmAt w W p q a1 a2 b1 b2 c1 c2 d1 d2 g v5 v1 o) : (W.cell? ⟨p, 0, none⟩ = some (.slice a1 g.roots.length c1) ∧ W.cell? ⟨p, 1, none⟩ = some (.slice a2 g.objs.length c2)) ∧ W.cell? ⟨q, 0, none⟩ = some (.slice b1 g.roots.length d1) ∧ W.cell? ⟨q, 1, none⟩ = some (.slice b2 g.objs.length d2) :=
  ⟨⟨(cells2 s.zp).1, (cells2 s.zp).2.1⟩, (cells2 s.zq).1, (cells2 s.zq).2.1⟩
end
theorem refMake_few {W : World} {vr vo : Value} {l : List RT} {o : List (Int × VT)} (hw : ∀ r ∈ l, (Lit.int .i64 r.id).wf = true) (hr : RtAt W vr (fewR l)) {N : Nat} {T : TypeId} (ho : OwRow T W N vo (fewO o)) : Calls Tryz.prog 10 #[vr, vo] W (MakeEnd W (makeT (fewR l) (fewO o))) := by
  obtain ⟨obs, h1, h2⟩ := ho.at_
  exact refMake_any W vr vo (fewR l) obs (fewO o) hr (by have := fewR_len l; omega) (fun r hr => (fewR_gd hw r hr).2.2) h1 h2 (by have := fewO_len o; omega) (fun x hx => by have := fewO_sz o x hx; omega)
def MmLoop (w : World) (p q : Nat) (a1 a2 b1 b2 : Option Addr) (c1 c2 d1 d2 : Nat) (g : GT) (v5 v1 : Value) (o : List (Int × VT)) (gk : Nat) (s10 : Value) (wx : World) : Prop :=
  ∃ i : Nat, s10 = .int .i64 (i : Int) ∧ i + gk = o.length ∧ MmAt w wx p q a1 a2 b1 b2 c1 c2 d1 d2 g v5 v1 o
set_option maxRecDepth 100000 in
set_option maxHeartbeats 8000000 in
theorem graphMakes_walk (l0 : List RT) (o0 : List (Int × VT)) (vl vo : Value) (w : World) (hT : Tab w) (hZ : Tz w) (hl : RtIn w vl l0) (ho : ObIn w vo o0) :
    Calls Tryz.prog 3 #[vl, vo] w fun e w' => e = .returned (.bool true) ∧ Below w.heap.size w w' := by
  have HT := Lib.hid hT
  have HZ := Lib.hid hZ
  have HG : Hid (∀ W, Below w.heap.size w W → Calls Tryz.prog 11 #[] W fun e w' => e = .returned (.bool true) ∧ Below W.heap.size W w') := fun W hW => graphs_any W (hT.below hW)
  have HF1 := Lib.hid (few_any w vl vo l0 o0 hl ho)
  have HW1 := Lib.hid hl.wf
  clear hT hZ hl ho
  go_enter Tryz.func3, Tryz.ntmps3
  go_upto_region 2 with ((go_at_call 6; refine HF1.out.mono ?_; clear HF1; rintro e w1 ⟨v0, v1, rfl, hr1, ho1, hb1⟩; have HR1 := Lib.hid hr1.at_; have HO1 := Lib.hid ho1; have B1 := Lib.hid hb1; clear hb1 hr1 ho1))
  go_upto_region 3 with ((go_at_call 7; refine (toObjects_few HO1.out).mono ?_; rintro e w2 ⟨v5, rfl, k2, hb2⟩; have K2 := Lib.hid k2; have HR2 := Lib.hid (HR1.out.below hb2); have HO2 := Lib.hid (HO1.out.below hb2); have B2 := Lib.hid (B1.out.trans (hb2.mono B1.out.size)); clear k2 hb2 HR1 HO1 B1))
  obtain ⟨r, hr⟩ : ∃ r, makeT (fewR l0) (fewO o0) = r := ⟨_, rfl⟩
  have HM1 : Hid (∀ (W : World) (vr vo : Value), RtAt W vr (fewR l0) → (∃ N, OwRow 49 W N vo (fewO o0)) → Calls Tryz.prog 8 #[vr, vo] W (MakeEnd W r)) := fun W vr vo h1 ⟨N, h2⟩ => by rw [← hr]; exact make_few HW1.out h1 h2
  have HM2 : Hid (∀ (W : World) (vr vo : Value), RtAt W vr (fewR l0) → (∃ N, OwRow 50 W N vo (fewO o0)) → Calls Tryz.prog 10 #[vr, vo] W (MakeEnd W r)) := fun W vr vo h1 ⟨N, h2⟩ => by rw [← hr]; exact refMake_few HW1.out h1 h2
  have hl1 := Gr.make_lens (fewR l0) (fewO o0)
  have HOL : Hid ((fewO o0).length ≤ 30) := fewO_len o0
  have HL : Hid (r.1.roots.length ≤ 30 ∧ r.1.objs.length ≤ 31) := by
    rw [hr] at hl1
    have a1 := fewR_len l0; have a3 := fewO_len o0
    exact ⟨by omega, by omega⟩
  have HRT : Hid (∀ t ∈ r.1.objs, t.right 1 = true ∧ t.enc.length ≤ 16384) := by rw [← hr]; exact Gr.make_right (by have := fewO_len o0; omega)
  have HNM : Hid (∀ x ∈ r.1.roots, x.name.length ≤ 1000 ∧ x.typ.length ≤ 1000) := by rw [← hr]; exact Gr.make_names
  clear hr HW1 hl1
  obtain ⟨g, er⟩ := r
  dsimp only at HL HRT HNM
  go_upto_region 4 with (first
    | (go_at_call 9; refine (toRoots_few HR2.out).mono ?_; rintro e w3 ⟨u1, rfl, k1, hb3⟩; have K1 := Lib.hid k1; have K3 := Lib.hid (K2.out.below hb3); have HR3 := Lib.hid (HR2.out.below hb3); have HO3 := Lib.hid (HO2.out.below hb3); have B3 := Lib.hid (B2.out.trans (hb3.mono B2.out.size)); clear k1 hb3 HR2 HO2 B2 K2)
    | (go_at_call 8; refine (HM1.out _ _ _ K1.out ⟨_, K3.out⟩).mono ?_; rintro e w4 h5; obtain ⟨a1, c1, a2, c2, rfl, j1, j2, hb5⟩ := h5.gis; have J1 := Lib.hid j1; have J2 := Lib.hid j2; have K4 := Lib.hid (K3.out.below hb5); have HR4 := Lib.hid (HR3.out.below hb5); have HO4 := Lib.hid (HO3.out.below hb5); have B4 := Lib.hid (B3.out.trans (hb5.mono B3.out.size)); clear h5 j1 j2 hb5 HR3 HO3 B3 K3 K1))
  (try dsimp only at J1 J2 ⊢)
  obtain ⟨W4, hW4⟩ : ∃ W, W = w4.alloc (.cells #[.slice a1 g.roots.length c1, .slice a2 g.objs.length c2] 31) := ⟨_, rfl⟩
  obtain ⟨p, hp⟩ : ∃ p, p = w4.heap.size := ⟨_, rfl⟩
  have hb4 : Below w4.heap.size w4 W4 := by rw [hW4]; exact (Below.refl _ _).alloc (Nat.le_refl _) _
  have ZP : Hid (W4.heap[p]? = some (.cells #[.slice a1 g.roots.length c1, .slice a2 g.objs.length c2] 31 (0, 0))) := by show _ = _; rw [hW4, hp]; exact World.alloc_heap_new _ _
  have J3 := Lib.hid (J1.out.below hb4)
  have J4 := Lib.hid (J2.out.below hb4)
  have K5 := Lib.hid (K4.out.below hb4)
  have HR5 := Lib.hid (HR4.out.below hb4)
  have HO5 := Lib.hid (HO4.out.below hb4)
  have B5 := Lib.hid (B4.out.trans (hb4.mono B4.out.size))
  rw [← hW4, ← hp]
  clear hW4 hp hb4 J1 J2 K4 HR4 HO4 B4
  go_upto_region 5 with (go_at_call 10; refine (HM2.out _ _ _ HR5.out ⟨_, HO5.out⟩).mono ?_; rintro e w6 h5; obtain ⟨b1, d1, b2, d2, rfl, j1, j2, hb5⟩ := h5.gis; have J1 := Lib.hid j1; have J2 := Lib.hid j2; have HB6 := Lib.hid hb5; clear h5 j1 j2 hb5)
  (try dsimp only at J1 J2 ⊢)
  obtain ⟨W6, hW6⟩ : ∃ W, W = w6.alloc (.cells #[.slice b1 g.roots.length d1, .slice b2 g.objs.length d2] 37) := ⟨_, rfl⟩
  obtain ⟨q, hq⟩ : ∃ p, p = w6.heap.size := ⟨_, rfl⟩
  have hb6 : Below w6.heap.size w6 W6 := by rw [hW6]; exact (Below.refl _ _).alloc (Nat.le_refl _) _
  have hb46 : Below W4.heap.size W4 W6 := HB6.out.trans (hb6.mono HB6.out.size)
  obtain ⟨o, hoo⟩ : ∃ o, fewO o0 = o := ⟨_, rfl⟩
  have SM : Hid (MmAt w W6 p q a1 a2 b1 b2 c1 c2 d1 d2 g v5 v1 o) := by
    rw [← hoo]
    exact ⟨(hb46.block _ (lt_of_block ZP.out)).trans ZP.out, by rw [hW6, hq]; exact World.alloc_heap_new _ _, J3.out.below hb46, J4.out.below hb46, J1.out.below hb6, J2.out.below hb6, ⟨_, K5.out.below hb46⟩, ⟨_, HO5.out.below hb46⟩, B5.out.trans (hb46.mono B5.out.size)⟩
  rw [hoo] at HOL
  rw [← hW6, ← hq]
  clear hW6 hq hb6 hb46 J1 J2 J3 J4 K5 HR5 HO5 B5 ZP HB6 hoo HM1 HM2
  have HSMD : Hid (MmAt w W6.drew p q a1 a2 b1 b2 c1 c2 d1 d2 g v5 v1 o) := SM.out.below (Below.refl _ _).drew
  obtain ⟨tx, htx⟩ : ∃ tx, bytes (graphTxt flHex g) = tx := ⟨_, rfl⟩
  have HGS : Hid (∀ W, MmAt w W p q a1 a2 b1 b2 c1 c2 d1 d2 g v5 v1 o → Calls Tryz.prog 11 #[] W fun e w' => e = .returned (.bool true) ∧ MmAt w w' p q a1 a2 b1 b2 c1 c2 d1 d2 g v5 v1 o) := fun W s => (HG.out W s.hb).mono fun e w' k => ⟨k.1, s.below k.2⟩
  have HFR : Hid (∀ W, MmAt w W p q a1 a2 b1 b2 c1 c2 d1 d2 g v5 v1 o → Calls Tryz.prog 13 #[.agg #[.slice a1 g.roots.length c1, .slice a2 g.objs.length c2]] W fun e w' => ∃ vr', e = .returned (.agg #[vr', .slice a2 g.objs.length c2]) ∧ RtAt w' vr' g.roots ∧ MmAt w w' p q a1 a2 b1 b2 c1 c2 d1 d2 g v5 v1 o) := fun W s =>
    (from_any W _ _ g s.gr s.go (by have := HL.out.1; omega)).mono fun e w' ⟨vr', k1, k2, k3, k4⟩ => ⟨vr', k1, k2, s.below k4⟩
  have HRS : Hid (∀ W v, MmAt w W p q a1 a2 b1 b2 c1 c2 d1 d2 g v5 v1 o → RtAt W v g.roots → Calls Tryz.prog 12 #[.agg #[v, .slice a2 g.objs.length c2], .agg #[.slice b1 g.roots.length d1, .slice b2 g.objs.length d2]] W fun e w' => e = .returned (.bool true) ∧ MmAt w w' p q a1 a2 b1 b2 c1 c2 d1 d2 g v5 v1 o) := fun W v s r1 =>
    (refGraphSame_any W _ _ _ _ g g r1 s.go s.hr s.ho (by have := HL.out.1; omega) (by have := HL.out.1; omega) (by have := HL.out.2; omega) (by have := HL.out.2; omega)).mono fun e w' k => ⟨k.1.trans (by rw [Gr.graphSame_refl]), s.below k.2⟩
  have HSS : Hid (∀ W, MmAt w W p q a1 a2 b1 b2 c1 c2 d1 d2 g v5 v1 o → Calls Tryz.prog 16 #[.agg #[.slice a1 g.roots.length c1, .slice a2 g.objs.length c2], .agg #[.slice a1 g.roots.length c1, .slice a2 g.objs.length c2]] W fun e w' => e = .returned (.bool true) ∧ MmAt w w' p q a1 a2 b1 b2 c1 c2 d1 d2 g v5 v1 o) := fun W s =>
    (graphSame_any W _ _ _ _ g g s.gr s.go s.gr s.go (by have := HL.out.1; omega) (by have := HL.out.1; omega)).mono fun e w' k => ⟨k.1.trans (by rw [Gr.graphSame_refl]), s.below k.2⟩
  have HTL : Hid (∀ t ∈ g.objs, (t.txt flHex).length ≤ 1000000) := fun t ht => txt_small (HRT.out t ht).2
  have HTX : Hid (∀ W, MmAt w W p q a1 a2 b1 b2 c1 c2 d1 d2 g v5 v1 o → Calls Tryz.prog 14 #[.agg #[.slice a1 g.roots.length c1, .slice a2 g.objs.length c2]] W fun e w' => e = .returned (.string tx) ∧ MmAt w w' p q a1 a2 b1 b2 c1 c2 d1 d2 g v5 v1 o) := fun W s => by
    rw [← htx]
    refine (graphText_any flHex W _ _ g.roots g.objs (HT.out.below s.hb) s.gr s.go (by have := HL.out.1; omega) (by have := HL.out.2; omega) HNM.out HTL.out (fun t ht v W2 hW2 hv => ?_)).mono fun e w' k => ⟨k.1, s.below k.2⟩
    have hTW := HT.out.below s.hb
    exact text_walk flHex true W hTW (fun _ x W hx hW => flBits_any x hx W ((HZ.out.below s.hb).below hW)) t.sz t v W2 _ 1 (Nat.le_refl _) (HRT.out t ht).1 (.inl rfl) (hv.below hW2 (fun b hb => hb)) (fun b hb => Nat.lt_of_lt_of_le hb hW2.size) hW2 (HTL.out t ht)
  have HTR : Hid (∀ W, MmAt w W p q a1 a2 b1 b2 c1 c2 d1 d2 g v5 v1 o → Calls Tryz.prog 15 #[.agg #[.slice b1 g.roots.length d1, .slice b2 g.objs.length d2]] W fun e w' => e = .returned (.string tx) ∧ MmAt w w' p q a1 a2 b1 b2 c1 c2 d1 d2 g v5 v1 o) := fun W s => by
    rw [← htx]
    refine (refGraphText_any flHex W _ _ g.roots g.objs s.hr s.ho (by have := HL.out.1; omega) (by have := HL.out.2; omega) HNM.out HTL.out (fun t ht v W2 hW2 hv => ?_)).mono fun e w' k => ⟨k.1, s.below k.2⟩
    exact refTxt_walk t.sz t v W2 _ 1 (Nat.le_refl _) (HRT.out t ht).1 (hv.below hW2 (fun b hb => hb)) (fun b hb => Nat.lt_of_lt_of_le hb hW2.size) (HTL.out t ht)
  have HSC : Hid (∀ W, MmAt w W p q a1 a2 b1 b2 c1 c2 d1 d2 g v5 v1 o → (W.cell? ⟨p, 0, none⟩ = some (.slice a1 g.roots.length c1) ∧ W.cell? ⟨p, 1, none⟩ = some (.slice a2 g.objs.length c2)) ∧ W.cell? ⟨q, 0, none⟩ = some (.slice b1 g.roots.length d1) ∧ W.cell? ⟨q, 1, none⟩ = some (.slice b2 g.objs.length d2)) := fun W s => s.cells
  have her : (er != er) = false := by simp
  clear htx HG HT HZ HRT HNM HTL
  go_region_held3 (fun w' => (w'.cell? ⟨p, 0, none⟩ = some (.slice a1 g.roots.length c1) ∧ w'.cell? ⟨p, 1, none⟩ = some (.slice a2 g.objs.length c2)) ∧ w'.cell? ⟨q, 0, none⟩ = some (.slice b1 g.roots.length d1) ∧ w'.cell? ⟨q, 1, none⟩ = some (.slice b2 g.objs.length d2)) (with_reducible (first | exact HSC.out _ S16.out | exact HSC.out _ S15.out | exact HSC.out _ S14.out | exact HSC.out _ S13.out | exact HSC.out _ S12.out | exact HSC.out _ S11.out | exact HSC.out _ HSMD.out))
    (first
      | (go_at_call 11; with_reducible refine (HGS.out W6.drew HSMD.out).mono ?_; clear HGS; rintro e w11 ⟨rfl, s⟩; have S11 := Lib.hid s; clear s)
      | (go_at_call 13; with_reducible refine (HFR.out w11 S11.out).mono ?_; clear HFR; rintro e w12 ⟨v9, rfl, k1, s⟩; have K1 := Lib.hid k1; have S12 := Lib.hid s; clear s k1)
      | (go_at_call 12; with_reducible refine (HRS.out w12 _ S12.out K1.out).mono ?_; clear HRS; rintro e w13 ⟨rfl, s⟩; have S13 := Lib.hid s; clear s)
      | (go_at_call 14; with_reducible refine (HTX.out w13 S13.out).mono ?_; clear HTX; rintro e w14 ⟨rfl, s⟩; have S14 := Lib.hid s; clear s)
      | (go_at_call 15; with_reducible refine (HTR.out w14 S14.out).mono ?_; clear HTR; rintro e w15 ⟨rfl, s⟩; have S15 := Lib.hid s; clear s)
      | (go_at_call 16; with_reducible refine (HSS.out w15 S15.out).mono ?_; clear HSS; rintro e w16 ⟨rfl, s⟩; have S16 := Lib.hid s; clear s))
  obtain ⟨a5, c5, e5⟩ := S16.out.i5.choose_spec.form
  obtain ⟨a9, c9, e9⟩ := S16.out.i1.choose_spec.form
  subst e5 e9
  have ol : (o.length : Int) ≤ 30 := by have := HOL.out; omega
  clear HOL S11 S12 S13 S14 S15 HSC K1 her HSMD SM
  go_wp2
  go_loopg [10] o.length (fun gk s10 wx => MmLoop w p q a1 a2 b1 b2 c1 c2 d1 d2 g (.slice a5 o.length c5) (.slice a9 o.length c9) o gk s10 wx)
  case atStart => exact ⟨0, rfl, by omega, S16.out⟩
  case round =>
    clear S16
    rename World => wx
    obtain ⟨i, rfl, hi, hs⟩ := hrel
    have HI := Lib.hid hi
    have HS := Lib.hid hs
    have i0 : (0 : Int) ≤ (i : Int) := by omega
    by_cases hlt : i < o.length
    · have i1 : (i : Int) < (o.length : Int) := by omega
      obtain ⟨y, hy⟩ : ∃ r, o[i]? = some r := ⟨_, List.getElem?_eq_getElem hlt⟩
      obtain ⟨obs5, ⟨ao5, cp5, e5, _, _, _, hbl5, hcc5⟩, ho5⟩ := hs.i5.choose_spec.at_
      obtain ⟨obs9, ⟨ao9, cp9, e9, _, _, _, hbl9, hcc9⟩, ho9⟩ := hs.i1.choose_spec.at_
      injection e5 with e5 e51 e52
      injection e9 with e9 e91 e92
      clear e51 e52 e91 e92
      subst e5 e9
      obtain ⟨x5, hx5⟩ : ∃ r, obs5[i]? = some r := ⟨_, List.getElem?_eq_getElem (by rw [ho5.1]; exact hlt)⟩
      obtain ⟨x9, hx9⟩ : ∃ r, obs9[i]? = some r := ⟨_, List.getElem?_eq_getElem (by rw [ho9.1]; exact hlt)⟩
      obtain ⟨b5, f5, rfl, z0, z1, z2, z3, z4⟩ := hcc5 i x5 hx5
      obtain ⟨b9, f9, rfl, t0, t1, t2, t3, t4⟩ := hcc9 i x9 hx9
      have hb5 := (hbl5 b5 f5 none rfl).2
      have hb9 := (hbl9 b9 f9 none rfl).2
      obtain ⟨hid5, hv5, _⟩ := ho5.2 i x5 y hx5 hy
      obtain ⟨hid9, hv9, _⟩ := ho9.2 i x9 y hx9 hy
      unfold obV at hv5 hv9
      rw [hid5] at z0
      rw [hid9] at t0
      have HC : Hid (∀ W, Below wx.heap.size wx W → (W.cell? ⟨b5, f5 + i * 5, none⟩ = some (.int .i64 y.1) ∧ W.cell? ⟨b5, f5 + i * 5 + 1, none⟩ = some (.int .i64 x5.k) ∧ W.cell? ⟨b5, f5 + i * 5 + 1 + 1, none⟩ = some (.int .i64 x5.n) ∧ W.cell? ⟨b5, f5 + i * 5 + 1 + 2, none⟩ = some (.string x5.s) ∧ W.cell? ⟨b5, f5 + i * 5 + 1 + 3, none⟩ = some (.slice x5.ao x5.len x5.cap)) ∧
          W.cell? ⟨b9, f9 + i * 5, none⟩ = some (.int .i64 y.1) ∧ W.cell? ⟨b9, f9 + i * 5 + 1, none⟩ = some (.int .i64 x9.k) ∧ W.cell? ⟨b9, f9 + i * 5 + 1 + 1, none⟩ = some (.int .i64 x9.n) ∧ W.cell? ⟨b9, f9 + i * 5 + 1 + 2, none⟩ = some (.string x9.s) ∧ W.cell? ⟨b9, f9 + i * 5 + 1 + 3, none⟩ = some (.slice x9.ao x9.len x9.cap)) := fun W hW =>
        ⟨⟨(hW.cell (p := ⟨b5, f5 + i * 5, none⟩) hb5).trans z0, (hW.cell (p := ⟨b5, f5 + i * 5 + 1, none⟩) hb5).trans z1, (hW.cell (p := ⟨b5, f5 + i * 5 + 1 + 1, none⟩) hb5).trans z2, (hW.cell (p := ⟨b5, f5 + i * 5 + 1 + 2, none⟩) hb5).trans z3, (hW.cell (p := ⟨b5, f5 + i * 5 + 1 + 3, none⟩) hb5).trans z4⟩,
          (hW.cell (p := ⟨b9, f9 + i * 5, none⟩) hb9).trans t0, (hW.cell (p := ⟨b9, f9 + i * 5 + 1, none⟩) hb9).trans t1, (hW.cell (p := ⟨b9, f9 + i * 5 + 1 + 1, none⟩) hb9).trans t2, (hW.cell (p := ⟨b9, f9 + i * 5 + 1 + 2, none⟩) hb9).trans t3, (hW.cell (p := ⟨b9, f9 + i * 5 + 1 + 3, none⟩) hb9).trans t4⟩
      have HSA : Hid (∀ W, Below wx.heap.size wx W → Calls Tryz.prog 17 #[.agg #[.int .i64 x5.k, .int .i64 x5.n, .string x5.s, .slice x5.ao x5.len x5.cap], .agg #[.int .i64 x9.k, .int .i64 x9.n, .string x9.s, .slice x9.ao x9.len x9.cap]] W fun e w' => e = .returned (.bool true) ∧ Below wx.heap.size wx w') := fun W hW =>
        (refSame_walk y.2.sz y.2 y.2 _ _ W _ (Nat.le_refl _) (hv5.below hW (fun b hb => hb)) (hv9.below hW (fun b hb => hb)) (fun b hb => Nat.lt_of_lt_of_le hb hW.size)).mono fun e W' h' => ⟨h'.1.trans (by rw [VT.same_refl]), hW.trans (h'.2.mono hW.size)⟩
      have HLT := Lib.hid hlt
      have hid0 : (y.1 != y.1) = false := by simp
      clear hi hs hlt hy hbl5 hcc5 ho5 hbl9 hcc9 ho9 hx5 hx9 z0 z1 z2 z3 z4 t0 t1 t2 t3 t4 hb5 hb9 hid5 hid9 hv5 hv9
      go_wp2
      go_region_held3 (fun W => (W.cell? ⟨b5, f5 + i * 5, none⟩ = some (.int .i64 y.1) ∧ W.cell? ⟨b5, f5 + i * 5 + 1, none⟩ = some (.int .i64 x5.k) ∧ W.cell? ⟨b5, f5 + i * 5 + 1 + 1, none⟩ = some (.int .i64 x5.n) ∧ W.cell? ⟨b5, f5 + i * 5 + 1 + 2, none⟩ = some (.string x5.s) ∧ W.cell? ⟨b5, f5 + i * 5 + 1 + 3, none⟩ = some (.slice x5.ao x5.len x5.cap)) ∧
          W.cell? ⟨b9, f9 + i * 5, none⟩ = some (.int .i64 y.1) ∧ W.cell? ⟨b9, f9 + i * 5 + 1, none⟩ = some (.int .i64 x9.k) ∧ W.cell? ⟨b9, f9 + i * 5 + 1 + 1, none⟩ = some (.int .i64 x9.n) ∧ W.cell? ⟨b9, f9 + i * 5 + 1 + 2, none⟩ = some (.string x9.s) ∧ W.cell? ⟨b9, f9 + i * 5 + 1 + 3, none⟩ = some (.slice x9.ao x9.len x9.cap))
        (first | exact HC.out _ HB7.out | exact HC.out _ (Below.refl _ _).drew | exact HC.out _ (Below.refl _ _))
        (first | (go_at_call 17; refine (HSA.out wx.drew (Below.refl _ _).drew).mono ?_; clear HSA; rintro e w7 ⟨rfl, hb7⟩; have HB7 := Lib.hid hb7; clear hb7))
      go_wp2
      go_roundg (gk - 1)
      case measure => have := HI.out; have := HLT.out; omega
      case rel => exact ⟨i + 1, by go_num, by have := HI.out; have := HLT.out; omega, HS.out.below HB7.out⟩
    · have i1 : ¬ (i : Int) < (o.length : Int) := by omega
      clear hi hs hlt
      go_wp2
      go_ret
      exact ⟨rfl, HS.out.hb⟩
end Go.Proofs.YtenikoecnfbfoaaGreatDoor
