/- Texts of the proof, in build order: GrMk2, GrGath, GrVRow, GrMk4, GrMk8, GrObj, GrRoots. -/
import Derived.Test.YtenikoecnfbfoaaGreatDoorB25
import Derived.Test.YtenikoecnfbfoaaGreatDoorB26
import Derived.Test.YtenikoecnfbfoaaGreatDoorB02
import Derived.Test.YtenikoecnfbfoaaGreatDoorB09
import Derived.Test.YtenikoecnfbfoaaGreatDoorB20
import Derived.Deep.RegionHeld3
/- Layer 8: Make's loop over the roots, over letters. -/
namespace Go.Proofs.YtenikoecnfbfoaaGreatDoor
open Go.RowKit Go.Maps
set_option linter.unusedVariables false
set_option linter.unusedSimpArgs false
open Gr (RT meetT pairs numOf)
/-- The block of a number. -/
def blkOf (n : Nat) : Code → Option Code
  | .block k c => if k = n then some (.block k c) else blkOf n c
  | .loop c => blkOf n c
  | .seq a b => match blkOf n a with
    | some c => some c
    | none => blkOf n b
  | .scope c => blkOf n c
  | .cond _ a b => match blkOf n a with
    | some c => some c
    | none => blkOf n b
  | .rangeFunc _ _ _ b => blkOf n b
  | _ => none
noncomputable def mkB2 : Code := ((Tryz.f8.body.bind (blkOf 2)).getD .skip)
/-- A root whose number is the new one. -/
def renum (met : List Int) (r : RT) : RT := ⟨r.name, r.typ, numOf met r.id⟩
def metOf (s : List RT) : List Int := (s.map RT.id).foldl meetT []
theorem metOf_snoc (s : List RT) (r : RT) : metOf (s ++ [r]) = meetT (metOf s) r.id := by simp [metOf]
theorem metOf_len : ∀ s : List RT, (metOf s).length ≤ s.length := fun s => by
  have := Gr.meets_len (s.map RT.id) []
  simpa [metOf] using this
/-- The walk has gone on, and the blocks F have turned. -/
def WkS (F : List Nat) (w w' : World) (Bw Bm : Nat) (sw sl sw' sl' : Value) : Prop :=
  Chg (wkF Bw Bm sw sl ++ F) w w' ∧ (∀ k, sw'.ownBlock = some k → sw.ownBlock = some k ∨ w.heap.size ≤ k) ∧ (∀ k, sl'.ownBlock = some k → sl.ownBlock = some k ∨ w.heap.size ≤ k)
theorem WkS.refl (F : List Nat) (w : World) (Bw Bm : Nat) (sw sl : Value) : WkS F w w Bw Bm sw sl sw sl := ⟨Chg.refl _ _, fun k hk => .inl hk, fun k hk => .inl hk⟩
theorem WkS.wkF {F : List Nat} {w w' : World} {Bw Bm : Nat} {sw sl sw' sl' : Value} (h : WkS F w w' Bw Bm sw sl sw' sl') {k : Nat} (hk : k ∈ wkF Bw Bm sw' sl') : k ∈ wkF Bw Bm sw sl ∨ w.heap.size ≤ k := by
  simp only [Go.Proofs.YtenikoecnfbfoaaGreatDoor.wkF, List.mem_cons, List.mem_append, Option.mem_toList] at hk ⊢
  rcases hk with e | e | e | e
  · exact .inl (.inl e)
  · exact .inl (.inr (.inl e))
  · exact (h.2.1 k e).imp (fun h => .inr (.inr (.inl h))) id
  · exact (h.2.2 k e).imp (fun h => .inr (.inr (.inr h))) id
theorem WkS.step {F : List Nat} {w w1 w2 : World} {Bw Bm : Nat} {sw sl sw1 sl1 sw2 sl2 : Value} (h : WkS F w w1 Bw Bm sw sl sw1 sl1) (g : WkStep w1 w2 Bw Bm sw1 sl1 sw2 sl2) : WkS F w w2 Bw Bm sw sl sw2 sl2 := by
  have hs := h.1.size
  refine ⟨h.1.trans g.1 (fun k hk => ?_), fun k hk => ?_, fun k hk => ?_⟩
  · rcases h.wkF hk with e | e
    · exact .inl (List.mem_append_left _ e)
    · exact .inr e
  · rcases g.2.1 k hk with e | e
    · exact h.2.1 k e
    · exact .inr (by omega)
  · rcases g.2.2 k hk with e | e
    · exact h.2.2 k e
    · exact .inr (by omega)
theorem WkS.chg {F G : List Nat} {w w1 w2 : World} {Bw Bm : Nat} {sw sl sw1 sl1 : Value} (h : WkS F w w1 Bw Bm sw sl sw1 sl1) (g : Chg G w1 w2) (hG : ∀ k ∈ G, k ∈ F ∨ w.heap.size ≤ k) : WkS F w w2 Bw Bm sw sl sw1 sl1 :=
  ⟨h.1.trans g (fun k hk => (hG k hk).imp_left (fun h => List.mem_append_right _ h)), h.2.1, h.2.2⟩
theorem WkS.block {F : List Nat} {w w' : World} {Bw Bm : Nat} {sw sl sw' sl' : Value} (h : WkS F w w' Bw Bm sw sl sw' sl') {k : Nat} (hk : k < w.heap.size) (h1 : k ∉ Go.Proofs.YtenikoecnfbfoaaGreatDoor.wkF Bw Bm sw sl) (h2 : k ∉ F) : w'.heap[k]? = w.heap[k]? := h.1.block k hk (by simp [h1, h2])
theorem WkStep.pre {w w' : World} {o : Obj} {Bw Bm : Nat} {sw sl sw' sl' : Value} (h : WkStep (w.alloc o) w' Bw Bm sw sl sw' sl') : WkStep w w' Bw Bm sw sl sw' sl' :=
  ⟨((Chg.refl _ w).alloc o).trans h.1 (fun k hk => .inl hk), fun k hk => (h.2.1 k hk).imp_right (fun h => by simp at h; omega), fun k hk => (h.2.2 k hk).imp_right (fun h => by simp at h; omega)⟩
theorem WkAt.lt {w : World} {N Bw Ba Bm : Nat} {sw sl : Value} {met : List Int} (h : WkAt w N Bw Ba Bm sw sl met) {k : Nat} (hk : k ∈ wkF Bw Bm sw sl) : k < w.heap.size := by
  simp only [wkF, List.mem_cons, List.mem_append, Option.mem_toList] at hk
  rcases hk with rfl | rfl | e | e
  · exact lt_of_block h.blk
  · exact h.mp.lt
  · exact h.wt.1.lt e
  · exact h.pr.1.lt e
theorem rtcells_set {l : List RT} {i : Nat} {r : RT} {n : Int} (h : l[i]? = some r) : (rtcells l).set (i * 3 + 2) (.int .i64 n) = rtcells (l.set i ⟨r.name, r.typ, n⟩) := by
  induction l generalizing i with
  | nil => cases h
  | cons x l ih =>
    cases i with
    | zero =>
      rw [List.getElem?_cons_zero] at h
      cases h
      rfl
    | succ i =>
      rw [List.getElem?_cons_succ] at h
      rw [List.set_cons_succ, rtcells_cons, rtcells_cons, ← ih h, List.set_append_right _ _ (by rw [rcs_len]; omega), rcs_len]
      congr 2
      omega
/-- The rows under way: the first i renumbered. -/
def rootsAt (s : List RT) (i : Nat) (met : List Int) : List RT := (s.take i).map (renum met) ++ s.drop i
theorem rootsAt_len (s : List RT) (i : Nat) (met : List Int) : (rootsAt s i met).length = s.length := by
  unfold rootsAt
  rw [List.length_append, List.length_map, List.length_take, List.length_drop]
  omega
theorem rootsAt_get {s : List RT} {i : Nat} {met : List Int} {r : RT} (h : s[i]? = some r) : (rootsAt s i met)[i]? = some r := by
  have hi := (List.getElem?_eq_some_iff.1 h).1
  unfold rootsAt
  rw [List.getElem?_append_right (by rw [List.length_map, List.length_take]; omega), List.length_map, List.length_take, List.getElem?_drop, ← h]
  congr 1
  omega
theorem numOf_meet {met : List Int} {a b : Int} (h : a ∈ met) : numOf (meetT met b) a = numOf met a := by
  by_cases hb : b ∈ met
  · rw [Gr.meetT_in hb]
  · rw [Gr.meetT_out hb]
    unfold numOf
    rw [Gr.pairs_snoc, firstP_snoc]
    obtain ⟨c, _, _, hc⟩ := Gr.pairsF_some (k := 1) h
    unfold pairs
    rw [hc]
theorem rootsAt_next {s : List RT} {i : Nat} {r : RT} (h : s[i]? = some r) : (rootsAt s i (metOf (s.take i))).set i ⟨r.name, r.typ, numOf (metOf (s.take (i + 1))) r.id⟩ = rootsAt s (i + 1) (metOf (s.take (i + 1))) := by
  have hi := (List.getElem?_eq_some_iff.1 h).1
  have hr := (List.getElem?_eq_some_iff.1 h).2
  have e1 : s.take (i + 1) = s.take i ++ [r] := by rw [List.take_add_one, h]; rfl
  have e2 : s.drop i = r :: s.drop (i + 1) := by rw [List.drop_eq_getElem_cons hi, hr]
  unfold rootsAt
  rw [e2, List.set_append_right _ _ (by rw [List.length_map, List.length_take]; omega), List.length_map, List.length_take, Nat.min_eq_left (by omega), Nat.sub_self, List.set_cons_zero, e1, List.map_append, List.map_cons, List.map_nil, List.append_assoc, List.singleton_append]
  congr 1
  apply List.map_congr_left
  intro x hx
  unfold renum
  rw [metOf_snoc, numOf_meet]
  unfold metOf
  exact Gr.meets_mem.2 (.inr (List.mem_map.2 ⟨x, hx, rfl⟩))
def Mk2I (W0 : World) (N Bw Ba Bm : Nat) (sw0 sl0 : Value) (ar : Option Addr) (cr : Nat) (s : List RT) (gk : Nat) (s63 : Value) (wr : World) : Prop :=
  ∃ (i : Nat) (sw sl : Value), s63 = .int .i64 (i : Int) ∧ i + gk = s.length ∧ WkAt wr N Bw Ba Bm sw sl (metOf (s.take i)) ∧ WkS (Value.slice ar s.length cr).ownBlock.toList W0 wr Bw Bm sw0 sl0 sw sl ∧ RtRow 82 wr N (.slice ar s.length cr) (rootsAt s i (metOf (s.take i)))
set_option maxRecDepth 100000 in
set_option maxHeartbeats 8000000 in
theorem mk2 {K : Exit → Act → World → Prop} {ds : List Deferred} {W0 : World} {N Bw Ba Bm Bp Bg cr : Nat} {sw0 sl0 og : Value} {ar : Option Addr} {s : List RT} {u0 u1 u2 u3 u4 u5 u6 u7 u9 u10 u12 u13 u14 u15 u16 u17 u18 u19 u20 u21 u22 u23 u24 u25 u26 u27 u28 u29 u30 u31 u32 u33 u34 u35 u36 u37 u38 u39 u40 u41 u42 u43 u44 u45 u46 u47 u48 u49 u50 u51 u52 u53 u54 u55 u56 u57 u58 u59 u60 u64 u65 u66 u67 u68 u69 u70 u71 u72 u73 u74 u75 u76 u77 u78 u79 u80 u81 u82 u83 u84 u85 u86 u87 u88 u89 u90 u91 u92 u93 u94 u95 u96 u97 u98 u99 u100 u101 u102 u103 u104 u105 u106 u107 u108 u109 u110 u111 u112 u113 u114 u115 u116 u117 u118 u119 u120 u121 u122 u123 u124 u125 u126 u127 u128 u129 u130 u131 u132 u133 u134 u135 u136 u137 u138 u139 u140 u141 u142 u143 u144 u145 u146 u147 u148 u149 : Value}
    (hwk : WkAt W0 N Bw Ba Bm sw0 sl0 []) (hbp : W0.heap[Bp]? = some (.cells #[.pointer (some ⟨Bw, 0, none⟩)] 69 (0, 0))) (hbg : W0.heap[Bg]? = some (.cells #[.slice ar s.length cr, og] 31 (0, 0)))
    (hrow : RtRow 82 W0 N (.slice ar s.length cr) s) (hx1 : Bp ∉ wkF Bw Bm sw0 sl0) (hx2 : Bg ∉ wkF Bw Bm sw0 sl0) (hx3 : ∀ k, (Value.slice ar s.length cr).ownBlock = some k → k ∉ wkF Bw Bm sw0 sl0 ∧ k ≠ Bp ∧ k ≠ Bg)
    (hs : s.length ≤ 100) (hwf : ∀ r ∈ s, (Lit.int .i64 r.id).wf = true)
    (hgo : ∀ (v12 v13 v63 v64 v65 v66 v67 v68 v69 v70 v71 v72 v73 v74 v75 v76 v77 v78 v79 v80 v81 v82 v83 v84 : Value) (W : World) (sw sl : Value), WkAt W N Bw Ba Bm sw sl (metOf s) → WkS (Value.slice ar s.length cr).ownBlock.toList W0 W Bw Bm sw0 sl0 sw sl → RtRow 82 W N (.slice ar s.length cr) (s.map (renum (metOf s))) → K .normal { tmps := #[u0, u1, u2, u3, u4, u5, u6, u7, .pointer (some ⟨Bp, 0, none⟩), u9, u10, .pointer (some ⟨Bg, 0, none⟩), v12, v13, u14, u15, u16, u17, u18, u19, u20, u21, u22, u23, u24, u25, u26, u27, u28, u29, u30, u31, u32, u33, u34, u35, u36, u37, u38, u39, u40, u41, u42, u43, u44, u45, u46, u47, u48, u49, u50, u51, u52, u53, u54, u55, u56, u57, u58, u59, u60, .slice ar s.length cr, .int .i64 (s.length : Int), v63, v64, v65, v66, v67, v68, v69, v70, v71, v72, v73, v74, v75, v76, v77, v78, v79, v80, v81, v82, v83, v84, u85, u86, u87, u88, u89, u90, u91, u92, u93, u94, u95, u96, u97, u98, u99, u100, u101, u102, u103, u104, u105, u106, u107, u108, u109, u110, u111, u112, u113, u114, u115, u116, u117, u118, u119, u120, u121, u122, u123, u124, u125, u126, u127, u128, u129, u130, u131, u132, u133, u134, u135, u136, u137, u138, u139, u140, u141, u142, u143, u144, u145, u146, u147, u148, u149], defers := ds } W) :
    Code.wp Tryz.prog mkB2 K { tmps := #[u0, u1, u2, u3, u4, u5, u6, u7, .pointer (some ⟨Bp, 0, none⟩), u9, u10, .pointer (some ⟨Bg, 0, none⟩), u12, u13, u14, u15, u16, u17, u18, u19, u20, u21, u22, u23, u24, u25, u26, u27, u28, u29, u30, u31, u32, u33, u34, u35, u36, u37, u38, u39, u40, u41, u42, u43, u44, u45, u46, u47, u48, u49, u50, u51, u52, u53, u54, u55, u56, u57, u58, u59, u60, .slice ar s.length cr, .int .i64 (s.length : Int), .int .i64 0, u64, u65, u66, u67, u68, u69, u70, u71, u72, u73, u74, u75, u76, u77, u78, u79, u80, u81, u82, u83, u84, u85, u86, u87, u88, u89, u90, u91, u92, u93, u94, u95, u96, u97, u98, u99, u100, u101, u102, u103, u104, u105, u106, u107, u108, u109, u110, u111, u112, u113, u114, u115, u116, u117, u118, u119, u120, u121, u122, u123, u124, u125, u126, u127, u128, u129, u130, u131, u132, u133, u134, u135, u136, u137, u138, u139, u140, u141, u142, u143, u144, u145, u146, u147, u148, u149], defers := ds } W0 := by
  have HGO := Lib.hid hgo
  have HBP := Lib.hid hbp
  have HBG := Lib.hid hbg
  have HX1 := Lib.hid hx1
  have HX2 := Lib.hid hx2
  have HX3 := Lib.hid hx3
  have HWF := Lib.hid hwf
  have HWK := Lib.hid hwk
  have HROW := Lib.hid hrow
  have HSL := Lib.hid hs
  have sl1 : (s.length : Int) ≤ 100 := by omega
  clear hgo hbp hbg hx1 hx2 hx3 hwf hwk hrow hs
  conv => arg 2; whnf
  go_wp2
  go_loopg [63] s.length (fun gk s63 wr => Mk2I W0 N Bw Ba Bm sw0 sl0 ar cr s gk s63 wr)
  case atStart => exact ⟨0, sw0, sl0, rfl, by omega, HWK.out, WkS.refl _ _ _ _ _ _, HROW.out⟩
  case round =>
    obtain ⟨i, sw, sl, rfl, hi, hwk, hws, hrow⟩ := hrel
    have HWK1 := Lib.hid hwk
    have HWS := Lib.hid hws
    have HRW := Lib.hid hrow
    have HI := Lib.hid hi
    have i0 : (0 : Int) ≤ (i : Int) := by omega
    clear hwk hws hrow hi
    by_cases hlt : i < s.length
    · have i1 : (i : Int) < (s.length : Int) := by omega
      obtain ⟨r, hr⟩ : ∃ r, s[i]? = some r := ⟨_, List.getElem?_eq_getElem hlt⟩
      have HR := Lib.hid hr
      have hget := rootsAt_get (met := metOf (s.take i)) hr
      obtain ⟨aq, cq, eq, hcc⟩ := HRW.out.at_.cells
      rw [rootsAt_len] at eq
      cases eq
      obtain ⟨b, off, rfl, hbl, c0, c1, c2⟩ := hcc i r hget
      have hoff : off = 0 ∧ True := by
        obtain ⟨ao', cap', e', _, _, _, h4⟩ := HRW.out.1.form
        rw [rootsAt_len] at e'
        cases e'
        obtain ⟨g, e, _⟩ := h4 _ rfl
        exact ⟨congrArg Addr.off e, trivial⟩
      obtain ⟨rfl, -⟩ := hoff
      rw [Nat.zero_add] at c0 c1 c2
      have hpb := (HWS.out.block (lt_of_block HBP.out) HX1.out (fun h => (HX3.out Bp (by simpa using h)).2.1 rfl)).trans HBP.out
      have hgb := (HWS.out.block (lt_of_block HBG.out) HX2.out (fun h => (HX3.out Bg (by simpa using h)).2.2 rfl)).trans HBG.out
      have HPB := Lib.hid hpb
      have HGB := Lib.hid hgb
      have hbln : b < wr.heap.size := hbl
      have HBL := Lib.hid hbln
      have p0 : wr.cell? ⟨Bp, 0, none⟩ = some (.pointer (some ⟨Bw, 0, none⟩)) := by unfold World.cell?; rw [hpb]; rfl
      have hwfr := HWF.out r (List.mem_of_getElem? hr)
      have HWR := Lib.hid hwfr
      have HLT := Lib.hid hlt
      have p1 : ∀ o : Obj, (wr.alloc o).cell? ⟨Bp, 0, none⟩ = some (.pointer (some ⟨Bw, 0, none⟩)) := fun o => (Below.cell ((Below.refl _ _).alloc (Nat.le_refl _) o) (p := ⟨Bp, 0, none⟩) (lt_of_block HPB.out)).trans p0
      clear hget hcc hbl hpb hgb hr hwfr hbln hlt
      have HMT := Lib.hid (fun o : Obj => meet_any (wr.alloc o) N Bw Ba Bm sw sl (metOf (s.take i)) r.id (HWK1.out.below ((Below.refl _ _).alloc (Nat.le_refl _) o)) (by have := metOf_len (s.take i); rw [List.length_take] at this; have := HSL.out; omega) HWR.out)
      go_wp2_with (go_at_call 27; refine (HMT.out _).mono ?_; rintro e w2 ⟨sw2, sl2, rfl, hwk2, hst2⟩; have HWK2 := Lib.hid hwk2; have HST2 := Lib.hid hst2; clear hwk2 hst2)
      have HNI : Hid (∀ k, k < W0.heap.size → k ∉ wkF Bw Bm sw0 sl0 → k ∉ wkF Bw Bm sw sl) := fun k hk hn h => by
        rcases HWS.out.wkF h with e | e
        · exact hn e
        · omega
      have hbx := World.alloc_heap_new wr (.cells #[.string (bytes r.name), .string (bytes r.typ), .int .i64 r.id] 82)
      have hst : WkStep wr w2 Bw Bm sw sl sw2 sl2 := HST2.out.pre
      have hwr : ∀ k, k ∈ wkF Bw Bm sw sl → k < wr.heap.size := fun k hk => HWK1.out.lt hk
      have z13 := (HST2.out.1.block wr.heap.size (by simp) (fun h => by have := hwr _ h; omega)).trans hbx
      have zP := (hst.1.block Bp (lt_of_block HPB.out) (HNI.out Bp (lt_of_block HBP.out) HX1.out)).trans HPB.out
      have zG := (hst.1.block Bg (lt_of_block HGB.out) (HNI.out Bg (lt_of_block HBG.out) HX2.out)).trans HGB.out
      have hrow2 : RtRow 82 w2 N (.slice (some ⟨b, 0, none⟩) s.length cr) (rootsAt s i (metOf (s.take i))) := HRW.out.chg hst.1 (fun k hk => HNI.out k (HROW.out.1.lt hk) (HX3.out k hk).1)
      obtain ⟨aq, cq, eq, hcc⟩ := hrow2.at_.cells
      rw [rootsAt_len] at eq
      cases eq
      obtain ⟨b', off', e', hbl, _, _, d2⟩ := hcc i r (rootsAt_get HR.out)
      cases e'
      rw [Nat.zero_add] at d2
      have hfz := World.ownsRow.frozenAt (by have := hrow2.1; rw [rootsAt_len] at this; exact this) (i * 3 + 2)
      obtain ⟨_, m1, _, _, _⟩ := cells4 HWK2.out.blk
      have l16 : (Instr.lookup 71 (.map (some Bm)) (.int .i64 r.id) false).run Tryz.prog w2.drew = .ok (.int .i64 (numOf (meetT (metOf (s.take i)) r.id) r.id)) w2.drew := (HWK2.out.mp.chg (F := []) (w' := w2.drew) ((Chg.refl [] w2).drewN 1) (by simp)).look Tryz.underlying3 Tryz.underlying71 Tryz.underlying3 (by kernel_rfl) HWR.out
      have y13 : w2.cell? ⟨wr.heap.size, 2, none⟩ = some (.int .i64 r.id) := by unfold World.cell?; rw [z13]; rfl
      have yP : w2.cell? ⟨Bp, 0, none⟩ = some (.pointer (some ⟨Bw, 0, none⟩)) := by unfold World.cell?; rw [zP]; rfl
      have yG : w2.cell? ⟨Bg, 0, none⟩ = some (.slice (some ⟨b, 0, none⟩) s.length cr) := by unfold World.cell?; rw [zG]; rfl
      have HST := Lib.hid hst
      have HR2 := Lib.hid hrow2
      generalize hnn : numOf (meetT (metOf (s.take i)) r.id) r.id = nn at l16
      have HNN := Lib.hid hnn
      generalize wr.heap.size = Bx at *
      clear hbx hst hwr z13 zP zG hrow2 hcc hnn p0 p1 c0 c1 c2
      refine region_tail 12 (by kernel_rfl) (by kernel_rfl) ?_
      simp only [List.take_succ_cons, List.take_zero, List.drop_succ_cons, List.drop_zero]
      repeat (refine wpStill_step (fun K hK => ?_); go_simp; (try go_bits); (refine hK _ ?_; clear hK K))
      refine wpStill_nil ?_
      go_wp2
      have e2 : s.take (i + 1) = s.take i ++ [r] := by rw [List.take_add_one, HR.out]; rfl
      have hc3 : Chg [b] w2 ((w2.setCell ⟨b, i * 3 + 2, none⟩ (.int .i64 nn)).drew) := ((Chg.refl [b] w2).setCell (.inl (by simp)) _).drewN 1
      have hr3 : RtRow 82 ((w2.setCell ⟨b, i * 3 + 2, none⟩ (.int .i64 nn)).drew) N (.slice (some ⟨b, 0, none⟩) s.length cr) (rootsAt s (i + 1) (metOf (s.take (i + 1)))) := by
        have h1 := HR2.out.1.chg (F := []) (w' := w2.drew) ((Chg.refl [] w2).drewN 1) (by simp)
        rw [rootsAt_len] at h1
        have h2 := (World.ownsRow.stored h1 (i * 3 + 2) (.int .i64 nn)).1
        rw [rtcells_set (rootsAt_get HR.out), ← HNN.out, ← metOf_snoc, ← e2, rootsAt_next HR.out] at h2
        refine ⟨?_, HR2.out.2⟩
        rw [rootsAt_len]
        rw [← HNN.out, ← metOf_snoc, ← e2]
        exact h2
      have hws2 := HWS.out.step HST.out
      have hb0 : b < W0.heap.size ∧ b ∉ wkF Bw Bm sw0 sl0 := ⟨HROW.out.1.lt rfl, (HX3.out b rfl).1⟩
      have hwk3 := HWK2.out.chg hc3 (fun k hk => by
        simp only [List.mem_singleton]
        rintro rfl
        rcases hws2.wkF hk with e | e
        · exact hb0.2 e
        · omega)
      have hws3 := hws2.chg hc3 (fun k hk => .inl (by simp only [List.mem_singleton] at hk; subst hk; simp [Value.ownBlock]))
      have HR3 := Lib.hid hr3
      have HWK3 := Lib.hid hwk3
      have HWS3 := Lib.hid hws3
      clear hr3 hwk3 hws3 hws2 hc3
      generalize (w2.setCell ⟨b, i * 3 + 2, none⟩ (.int .i64 nn)).drew = w3 at HR3 HWK3 HWS3 ⊢
      go_roundg (gk - 1)
      case measure => have := HI.out; have := HLT.out; omega
      case rel => exact ⟨i + 1, sw2, sl2, by go_num, by have := HI.out; have := HLT.out; omega, by rw [e2, metOf_snoc]; exact HWK3.out, HWS3.out, HR3.out⟩
    · have i1 : ¬ (i : Int) < (s.length : Int) := by omega
      have hz : i = s.length := by have := HI.out; omega
      subst hz
      have hw := HWK1.out
      have hr := HRW.out
      rw [List.take_length] at hw hr
      unfold rootsAt at hr
      rw [List.take_length, List.drop_length, List.append_nil] at hr
      have HW := Lib.hid hw
      have HR := Lib.hid hr
      clear hw hr
      go_wp2
      exact HGO.out _ _ _ _ _ _ _ _ _ _ _ _ _ _ _ _ _ _ _ _ _ _ _ _ _ _ _ HW.out HWS.out HR.out
end Go.Proofs.YtenikoecnfbfoaaGreatDoor
/- Layer 8 in plain words: what stands in a directory's value, step by step; a root more in a row. -/
namespace Go.Proofs.YtenikoecnfbfoaaGreatDoor
open Go.RowKit
set_option linter.unusedVariables false
set_option linter.unusedSimpArgs false
open Gr (RT gather rootOf rootsT)
namespace Gr
theorem gather_go {f : Nat} {s s2 : ByteArray} {k2 n2 : Int} {a b c y : VT} {out : List RT} (h : out.length ≤ 100) : gather (f + 1) (.node 3 1 s [.node k2 n2 s2 [a, b, c], y]) out = gather f y (out ++ [rootOf a b c]) := by
  rw [gather, if_pos ⟨rfl, rfl, h⟩]
theorem gather_bad {f : Nat} {s s2 : ByteArray} {k2 n2 : Int} {ks : List VT} {y : VT} {out : List RT} (h : out.length ≤ 100) (hk : ks.length ≠ 3) : gather (f + 1) (.node 3 1 s [.node k2 n2 s2 ks, y]) out = none := by
  rw [gather, if_pos ⟨rfl, rfl, h⟩]
  intro a b c e
  subst e
  exact hk rfl
theorem gather_stop {f : Nat} {k n : Int} {s : ByteArray} {ks : List VT} {out : List RT} (h : ¬ (k = 3 ∧ n = 1 ∧ ks.length = 2 ∧ out.length ≤ 100)) : gather (f + 1) (.node k n s ks) out = some out := by
  match ks with
  | [] => simp [gather]
  | [x] => simp [gather]
  | [.node k2 n2 s2 kk, y] =>
    unfold gather
    exact if_neg (fun g => h ⟨g.1, g.2.1, rfl, g.2.2⟩)
  | a :: b :: c :: l => simp [gather]
end Gr
theorem kids2 {la : List VT} (h : la.length = 2) : ∃ t y, la = [t, y] := by
  match la, h with
  | [t, y], _ => exact ⟨t, y, rfl⟩
theorem kids3 {la : List VT} (h : la.length = 3) : ∃ a b c, la = [a, b, c] := by
  match la, h with
  | [a, b, c], _ => exact ⟨a, b, c, rfl⟩
theorem step_root {T U : TypeId} (hU : Tryz.prog.underlying U = some (.slice T)) (hi : (Tryz.prog.info? T).map (fun i => (i.zero, i.size, i.bytes)) = some (some (.agg #[.string ⟨#[]⟩, .string ⟨#[]⟩, .int .i64 0]), 3, 40))
    {w : World} {ops : Array Oper} {o : Oper} {a : Act} {K : Act → World → Prop} {Q : Exit → Act → World → Prop} {E : Prop} (hgd : o.guard = none) (s x : Operand)
    (ho : o.op = .call { callee := .builtin .append, args := #[s, x], argTypes := #[U, U] }) {N : Nat} {v : Value} {l : List RT} {r : RT} {ad : Addr} {c : Nat} (hs : a.eval s = v) (hr : RtRow T w N v l) (hx : a.eval x = .slice (some ad) 1 c)
    (hnews : ∀ j u, (rtcells [r])[j]? = some u → w.cell? (ad.add j) = some u) (hN : N ≤ w.heap.size) (h63 : l.length ≤ 1000000)
    (h : ∀ ao cap w', RtRow T w' N (.slice ao (l.length + 1) cap) (l ++ [r]) → Below N w w' → Chg v.ownBlock.toList w w' → K (a.put o.dst (.slice ao (l.length + 1) cap)) w') : if Region.wanted o (yielded ops a.tmps) = true then Oper.wp Tryz.prog o a w K Q else E := by
  refine step_rows (n := l.length) (m := 1) (news := rtcells [r]) hgd s x U ho hU hi rfl (by omega) hs hr.1 hx (.inr ⟨ad, c, rfl, hnews⟩) (by rw [rtcells_length]; rfl) (rtcells_one _) (by omega) (by omega) ?_
  intro ao cap w' hr' ha
  have hb := ha.chg.below hN (fun k hk => hr.2 k (by simpa using hk))
  refine h ao cap w' ⟨?_, fun k hk => ?_⟩ hb ha.chg
  · rw [rtcells_append, List.length_append, List.length_singleton]; exact hr'
  · rcases ha.out hk with e | e
    · exact hr.2 k e
    · omega
theorem cell_three_new (w : World) (a b c : Value) (t : TypeId) : ∀ (j : Nat) (u : Value), [a, b, c][j]? = some u → (w.alloc (.cells #[a, b, c] t)).cell? (Addr.add ⟨w.heap.size, 0, none⟩ j) = some u := by
  intro j u hj
  have hb := World.alloc_heap_new w (.cells #[a, b, c] t)
  rw [show (Addr.add ⟨w.heap.size, 0, none⟩ j) = ⟨w.heap.size, j, none⟩ by unfold Addr.add; split <;> simp_all]
  unfold World.cell?
  rw [hb]
  show (#[a, b, c] : Array Value)[j]? = some u
  rw [← Array.getElem?_toList]
  exact hj
/-- Roots, ended. -/
def RootsEnd (T : TypeId) (w : World) (r : Option (List RT)) (e : Ending) (w' : World) : Prop :=
  ∃ vo, e = .returned (.tuple #[vo, .int .i64 (if r.isSome then 0 else 2)]) ∧ (∀ out, r = some out → RtRow T w' w.heap.size vo out) ∧ (r = none → vo = .slice none 0 0) ∧ Below w.heap.size w w'
/-- The loop's state: the box of the value that is looked at, the roots so far. -/
def RsI (T : TypeId) (w : World) (P : Nat → Prop) (v : VT) (vc : Array Value) (gk : Nat) (s4 : Value) (wr : World) : Prop :=
  ∃ (k n : Int) (s : ByteArray) (l : List VT) (ao : Option Addr) (cap : Nat) (out : List RT), 1 ≤ gk ∧ gk + out.length = 102 ∧ RtRow T wr (w.heap.size + 2) s4 out ∧ wr.heap[w.heap.size]? = some (.cells vc 47 (0, 0)) ∧
    wr.heap[w.heap.size + 1]? = some (.cells #[.int .i64 k, .int .i64 n, .string s, .slice ao l.length cap] 47 (0, 0)) ∧ ValIs wr P (.node k n s l) (.agg #[.int .i64 k, .int .i64 n, .string s, .slice ao l.length cap]) ∧
    gather 102 v [] = gather gk (.node k n s l) out ∧ Below w.heap.size w wr
end Go.Proofs.YtenikoecnfbfoaaGreatDoor
/- Layer 8: rows of values that lie elsewhere; numbers that a value names. -/
namespace Go.Proofs.YtenikoecnfbfoaaGreatDoor
open Go.RowKit
set_option linter.unusedVariables false
set_option linter.unusedSimpArgs false
mutual
theorem refs_wf {w : World} {P : Nat → Prop} : ∀ (t : VT) (v : Value), ValIs w P t v → ∀ n ∈ t.refs, (Lit.int .i64 n).wf = true
  | .node k n s l, v, h => by
    unfold ValIs at h
    obtain ⟨ao, cap, rfl, _, _, _, _, hn, _, hk⟩ := h
    intro m hm
    rw [VT.refs_node, List.mem_append] at hm
    rcases hm with hm | hm
    · split at hm
      · rw [List.mem_singleton.1 hm]; exact hn
      · cases hm
    · exact refsL_wf l ao 0 hk m hm
theorem refsL_wf {w : World} {P : Nat → Prop} : ∀ (l : List VT) (ao : Option Addr) (j : Nat), KidsAt w P l ao j → ∀ n ∈ VT.refsL l, (Lit.int .i64 n).wf = true
  | [], _, _, _ => by rw [VT.refsL_nil]; intro n hn; cases hn
  | t :: l, ao, j, h => by
    unfold KidsAt at h
    obtain ⟨⟨_, _, _, _, _, _, _, _, _, _, _, _, hv⟩, hr⟩ := h
    intro n hn
    rw [VT.refsL_cons, List.mem_append] at hn
    rcases hn with hn | hn
    · exact refs_wf t _ hv n hn
    · exact refsL_wf l ao (j + 1) hr n hn
end
/-- A row of values; what they name lies in the blocks P. -/
def VRow (w : World) (N : Nat) (P : Nat → Prop) (v : Value) (l : List VT) : Prop :=
  ∃ ps : List (Option Addr × Nat), ps.length = l.length ∧ RowZ w 47 4 v l.length (kcells l ps) ∧ (∀ k, v.ownBlock = some k → N ≤ k) ∧
    ∀ (i : Nat) (t : VT) (p : Option Addr × Nat), l[i]? = some t → ps[i]? = some p → ValIs w P t (vval t p.1 p.2)
section
variable {w w' : World} {N : Nat} {P : Nat → Prop} {v : Value} {l : List VT}
theorem VRow.nil (w : World) (N : Nat) (P : Nat → Prop) : VRow w N P (.slice none 0 0) [] := ⟨[], rfl, RowZ.nil _ _ _, fun k h => by simp [Value.ownBlock] at h, fun i t p h => by cases h⟩
theorem VRow.lt (h : VRow w N P v l) {k : Nat} (hk : v.ownBlock = some k) : k < w.heap.size := by obtain ⟨_, _, h, _⟩ := h; exact h.lt hk
theorem VRow.own (h : VRow w N P v l) {k : Nat} (hk : v.ownBlock = some k) : N ≤ k := by obtain ⟨_, _, _, h, _⟩ := h; exact h k hk
theorem VRow.chg {F : List Nat} (h : VRow w N P v l) (hc : Chg F w w') (hv : ∀ k, v.ownBlock = some k → k ∉ F) (hP : ∀ b, P b → b < w.heap.size ∧ b ∉ F) : VRow w' N P v l := by
  obtain ⟨ps, h1, h2, h3, h4⟩ := h
  exact ⟨ps, h1, h2.chg hc hv, h3, fun i t p ht hp => (h4 i t p ht hp).chg hc hP⟩
theorem VRow.mono {Q : Nat → Prop} (h : VRow w N P v l) (hPQ : ∀ b, P b → Q b) : VRow w N Q v l := by
  obtain ⟨ps, h1, h2, h3, h4⟩ := h
  exact ⟨ps, h1, h2, h3, fun i t p ht hp => (h4 i t p ht hp).mono hPQ⟩
theorem VRow.form (h : VRow w N P v l) : ∃ ao cap, v = .slice ao l.length cap := by
  obtain ⟨ps, h1, h2, _⟩ := h
  obtain ⟨ao, cap, e, _⟩ := h2.form
  exact ⟨ao, cap, e⟩
theorem VRow.kids {Q : Nat → Prop} (h : VRow w N P v l) (hPQ : ∀ b, P b → Q b) (hv : ∀ k, v.ownBlock = some k → Q k) : ∃ ao cap, v = .slice ao l.length cap ∧ l.length ≤ cap ∧ cap ≤ maxLen ∧ (ao = none → cap = 0) ∧ KidsAt w Q l ao 0 := by
  obtain ⟨ps, h1, h2, h3, h4⟩ := h
  obtain ⟨ao, cap, rfl, hle, hm, hn, hs⟩ := h2.form
  refine ⟨ao, cap, rfl, hle, hm, fun e => (hn e).2, KidsAt.mk fun i t ht => ?_⟩
  have hil := (List.getElem?_eq_some_iff.1 ht).1
  obtain ⟨p, hp⟩ : ∃ p, ps[i]? = some p := ⟨_, List.getElem?_eq_getElem (by omega)⟩
  cases ao with
  | none => have := (hn rfl).1; omega
  | some a =>
    obtain ⟨g, rfl, hg, hgb⟩ := hs a rfl
    have hlen := kcells_length h1
    have c : ∀ r, r < 4 → w.cell? ⟨g, i * 4 + r, none⟩ = (kcell t p)[r]? := fun r hr => by
      rw [← kcells_get ht hp hr]
      exact h2.cellAt _ (by rw [hlen]; omega)
    refine ⟨g, 0, _, _, _, _, rfl, hv g hgb, ?_, ?_, ?_, ?_, (h4 i t p ht hp).mono hPQ⟩
    · rw [Nat.zero_add, Nat.zero_add]; exact c 0 (by omega)
    · rw [Nat.zero_add, Nat.zero_add]; exact c 1 (by omega)
    · rw [Nat.zero_add, Nat.zero_add]; exact c 2 (by omega)
    · rw [Nat.zero_add, Nat.zero_add]; exact c 3 (by omega)
end
theorem kcell_oneV (t : VT) (p : Option Addr × Nat) : ∀ u ∈ kcell t p, u.oneCell' = true := by
  intro u hu
  simp only [kcell, List.mem_cons, List.not_mem_nil, or_false] at hu
  rcases hu with rfl | rfl | rfl | rfl <;> rfl
/-- 'append(l, v)': the value's box is a block of its own. -/
theorem wpList_appv {w : World} {ops : Array Oper} {rest : List Oper} {o : Oper} {a : Act} {Q : Exit → Act → World → Prop} (hgd : o.guard = none) (s x : Operand)
    (ho : o.op = .call { callee := .builtin .append, args := #[s, x], argTypes := #[29, 29] }) {N : Nat} {P : Nat → Prop} {v : Value} {l : List VT} {t : VT} {p : Option Addr × Nat} {ad : Addr} {c : Nat} (hs : a.eval s = v) (hr : VRow w N P v l) (hx : a.eval x = .slice (some ad) 1 c)
    (hnews : ∀ j u, (kcell t p)[j]? = some u → w.cell? (ad.add j) = some u) (ht : ValIs w P t (vval t p.1 p.2)) (hN : N ≤ w.heap.size) (h63 : l.length ≤ 1000000) (hP : ∀ b, P b → b < w.heap.size ∧ v.ownBlock ≠ some b)
    (h : ∀ ao cap w', VRow w' N P (.slice ao (l.length + 1) cap) (l ++ [t]) → OwnStep w v w' (.slice ao (l.length + 1) cap) → wpList Tryz.prog ops Q rest (a.put o.dst (.slice ao (l.length + 1) cap)) w') : wpList Tryz.prog ops Q (o :: rest) a w := by
  obtain ⟨ps, h1, h2, h3, h4⟩ := hr
  refine wpList_rows hgd s x 29 ho Tryz.underlying29 infoV rfl (by omega) hs h2 hx (.inr ⟨ad, c, rfl, hnews⟩) (by simp [kcell]) (kcell_oneV t p) (by omega) (by omega) ?_
  intro ao cap w' hr' ha
  have hc := ha.chg
  refine h ao cap w' ⟨ps ++ [p], by simp [h1], by rw [kcells_snoc h1, List.length_append, List.length_singleton]; exact hr', fun k hk => ?_, fun i u q hu hq => ?_⟩ ⟨hc, ?_⟩
  · rcases ha.out hk with e | e
    · exact h3 k e
    · omega
  · have keep : ∀ {u : VT} {x : Value}, ValIs w P u x → ValIs w' P u x := fun hv => hv.chg hc (fun b hb => ⟨(hP b hb).1, by simpa using (hP b hb).2⟩)
    by_cases hi : i < l.length
    · rw [List.getElem?_append_left hi] at hu
      rw [List.getElem?_append_left (by omega)] at hq
      exact keep (h4 i u q hu hq)
    · have : i = l.length := by
        have := (List.getElem?_eq_some_iff.1 hu).1
        simp at this; omega
      subst this
      rw [List.getElem?_append_right (Nat.le_refl _), Nat.sub_self] at hu
      rw [List.getElem?_append_right (by omega), h1, Nat.sub_self] at hq
      cases hu; cases hq
      exact keep ht
  · rcases ha.2 with e | e
    · exact .inl e
    · exact .inr ⟨_, e, Nat.le_refl _⟩
end Go.Proofs.YtenikoecnfbfoaaGreatDoor
/- Layer 8: Make's loop over what is met, over letters. -/
namespace Go.Proofs.YtenikoecnfbfoaaGreatDoor
open Go.RowKit Go.Maps
set_option linter.unusedVariables false
set_option linter.unusedSimpArgs false
open Gr (RT meetT pairs numOf bfs findO)
noncomputable def mkB4 : Code := ((Tryz.f8.body.bind (blkOf 4)).getD .skip)
/-- What the map of all objects gives. -/
def AllAt (w : World) (P : Nat → Prop) (objs : List (Int × VT)) (f : Int → Option Value) : Prop :=
  ∀ id, match findO objs id with
    | some t => ∃ ao cap, f id = some (vval t ao cap) ∧ ValIs w P t (vval t ao cap)
    | none => f id = none
structure Mk4I (W0 : World) (N Bw Ba Bm : Nat) (sw0 sl0 : Value) (objs : List (Int × VT)) (met0 : List Int) (i : Nat) (met : List Int) (vals : List VT) (sw sl sv : Value) (wr : World) : Prop where
  wk : WkAt wr N Bw Ba Bm sw sl met
  ws : WkS [] W0 wr Bw Bm sw0 sl0 sw sl
  vr : VRow wr W0.heap.size (fun b => b < N) sv vals
  vx : ∀ k, sv.ownBlock = some k → k ∉ wkF Bw Bm sw sl
  bf : bfs objs (objs.length + 1) 0 met0 [] = bfs objs (objs.length + 1 - i) i met vals
  nd : met.Nodup
  il : i ≤ met.length
  fd : ∀ j, j < i → ∃ v, findO objs (met.getD j 0) = some v
  ml : met.length ≤ 100 + i * 1000
  vl : vals.length = i
def Mk4R (W0 : World) (N Bw Ba Bm : Nat) (sw0 sl0 : Value) (objs : List (Int × VT)) (met0 : List Int) (gk : Nat) (s14 s15 : Value) (wr : World) : Prop :=
  ∃ (i : Nat) (met : List Int) (vals : List VT) (sw sl : Value), s15 = .int .i64 (i : Int) ∧ i + gk = objs.length + 1 ∧ Mk4I W0 N Bw Ba Bm sw0 sl0 objs met0 i met vals sw sl s14 wr
theorem Mk4I.small {W0 : World} {N Bw Ba Bm : Nat} {sw0 sl0 : Value} {objs : List (Int × VT)} {met0 : List Int} {i : Nat} {met : List Int} {vals : List VT} {sw sl sv : Value} {wr : World} (h : Mk4I W0 N Bw Ba Bm sw0 sl0 objs met0 i met vals sw sl sv wr) : i ≤ objs.length := Gr.bfs_bound h.nd h.il h.fd
/-- The inner loop: what a value names is met. -/
def Mk6R (W1 : World) (N Bw Ba Bm : Nat) (sw1 sl1 : Value) (met : List Int) (refs : List Int) (gk : Nat) (s115 : Value) (wr : World) : Prop :=
  ∃ (j : Nat) (sw sl : Value), s115 = .int .i64 (j : Int) ∧ j + gk = refs.length ∧ WkAt wr N Bw Ba Bm sw sl ((refs.take j).foldl meetT met) ∧ WkStep W1 wr Bw Bm sw1 sl1 sw sl
theorem wkF_ge {w : World} {N Bw Ba Bm : Nat} {sw sl : Value} {met : List Int} (h : WkAt w N Bw Ba Bm sw sl met) {k : Nat} (hk : k ∈ wkF Bw Bm sw sl) : N ≤ k := by
  simp only [wkF, List.mem_cons, List.mem_append, Option.mem_toList] at hk
  rcases hk with rfl | rfl | e | e
  · exact h.n1
  · exact h.n2
  · exact h.wt.2 k e
  · exact h.pr.2 k e
theorem WkS.below {w w' : World} {N Bw Ba Bm : Nat} {sw sl sw' sl' : Value} {met : List Int} (hk : WkAt w N Bw Ba Bm sw sl met) (h : WkS [] w w' Bw Bm sw sl sw' sl') : Below N w w' :=
  h.1.below hk.n0 (fun k hm => by rw [List.append_nil] at hm; exact wkF_ge hk hm)
theorem WkStep.wkF {w w' : World} {Bw Bm : Nat} {sw sl sw' sl' : Value} (h : WkStep w w' Bw Bm sw sl sw' sl') {k : Nat} (hk : k ∈ wkF Bw Bm sw' sl') : k ∈ wkF Bw Bm sw sl ∨ w.heap.size ≤ k := by
  simp only [Go.Proofs.YtenikoecnfbfoaaGreatDoor.wkF, List.mem_cons, List.mem_append, Option.mem_toList] at hk ⊢
  rcases hk with e | e | e | e
  · exact .inl (.inl e)
  · exact .inl (.inr (.inl e))
  · exact (h.2.1 k e).imp (fun h => .inr (.inr (.inl h))) id
  · exact (h.2.2 k e).imp (fun h => .inr (.inr (.inr h))) id
theorem WkStep.preC {w w1 w2 : World} {Bw Bm : Nat} {sw sl sw' sl' : Value} (h : WkStep w1 w2 Bw Bm sw sl sw' sl') (hc : Chg [] w w1) : WkStep w w2 Bw Bm sw sl sw' sl' :=
  ⟨(hc.mono (by simp)).trans h.1 (fun k hk => .inl hk), fun k hk => (h.2.1 k hk).imp_right (fun h => Nat.le_trans hc.size h), fun k hk => (h.2.2 k hk).imp_right (fun h => Nat.le_trans hc.size h)⟩
theorem cell_four_newG (w : World) (a b c d : Value) (t : TypeId) : ∀ (j : Nat) (u : Value), [a, b, c, d][j]? = some u → (w.alloc (.cells #[a, b, c, d] t)).cell? (Addr.add ⟨w.heap.size, 0, none⟩ j) = some u := by
  intro j u hj
  have hb := World.alloc_heap_new w (.cells #[a, b, c, d] t)
  rw [show (Addr.add ⟨w.heap.size, 0, none⟩ j) = ⟨w.heap.size, j, none⟩ by unfold Addr.add; split <;> simp_all]
  unfold World.cell?
  rw [hb]
  show (#[a, b, c, d] : Array Value)[j]? = some u
  rw [← Array.getElem?_toList]
  exact hj
theorem res_set {X : World} {H : Nat} {a b c a' b' c' : Value} {T T' : TypeId} (h1 : X.heap[H]? = some (.cells #[a, b] T (0, 0))) (h2 : X.heap[H + 1]? = some (.cells #[c] T' (0, 0))) :
    (((X.setCell ⟨H, 0, none⟩ a').setCell ⟨H, 1, none⟩ b').setCell ⟨H + 1, 0, none⟩ c').heap[H]? = some (.cells #[a', b'] T (0, 0)) ∧ (((X.setCell ⟨H, 0, none⟩ a').setCell ⟨H, 1, none⟩ b').setCell ⟨H + 1, 0, none⟩ c').heap[H + 1]? = some (.cells #[c'] T' (0, 0)) ∧
    Chg [H, H + 1] X (((X.setCell ⟨H, 0, none⟩ a').setCell ⟨H, 1, none⟩ b').setCell ⟨H + 1, 0, none⟩ c') := by
  have e1 := heap_setCell_same X H 0 #[a, b] T a' h1
  have e2 := heap_setCell_same _ H 1 _ T b' e1
  have e3 := (Below.heap_setCell _ ⟨H + 1, 0, none⟩ c' H (by simp)).trans e2
  have f1 := (Below.heap_setCell X ⟨H, 0, none⟩ a' (H + 1) (by simp)).trans h2
  have f2 := (Below.heap_setCell _ ⟨H, 1, none⟩ b' (H + 1) (by simp)).trans f1
  have f3 := heap_setCell_same _ (H + 1) 0 _ T' c' f2
  exact ⟨e3, f3, (((Chg.refl _ _).setCell (.inl (by simp)) _).setCell (.inl (by simp)) _).setCell (.inl (by simp)) _⟩
set_option maxRecDepth 100000 in
set_option maxHeartbeats 8000000 in
theorem mk4 {K : Exit → Act → World → Prop} {ds : List Deferred} {W0 : World} {N Bw Ba Bm Bp H nv : Nat} {sw0 sl0 : Value} {objs : List (Int × VT)} {met0 : List Int} {fa : Int → Option Value} {u0 u1 u2 u3 u6 u7 u9 u10 u11 u12 u13 u16 u17 u18 u19 u20 u21 u22 u23 u24 u25 u26 u27 u28 u29 u30 u31 u32 u33 u34 u35 u36 u37 u38 u39 u40 u41 u42 u43 u44 u45 u46 u47 u48 u49 u50 u51 u52 u53 u54 u55 u56 u57 u58 u59 u60 u61 u62 u63 u64 u65 u66 u67 u68 u69 u70 u71 u72 u73 u74 u75 u76 u77 u78 u79 u80 u81 u82 u83 u84 u85 u86 u87 u88 u89 u90 u91 u92 u93 u94 u95 u96 u97 u98 u99 u100 u101 u102 u103 u104 u105 u106 u107 u108 u109 u110 u111 u112 u113 u114 u115 u116 u117 u118 u119 u120 u121 u122 u123 u124 u125 u126 u127 u128 u129 u130 u131 u132 u133 u134 u135 u136 u137 u138 u139 u140 u141 u142 u143 u144 u145 u146 u147 u148 u149 : Value}
    (hwk : WkAt W0 N Bw Ba Bm sw0 sl0 met0) (hbp : W0.heap[Bp]? = some (.cells #[.pointer (some ⟨Bw, 0, none⟩)] 69 (0, 0))) (hva : VMap Tryz.prog 3 W0 Ba nv fa) (hall : AllAt W0 (fun b => b < N) objs fa)
    (hbH : W0.heap[H]? = some (.cells #[.slice none 0 0, .slice none 0 0] 31 (0, 0))) (hbE : W0.heap[H + 1]? = some (.cells #[.int .i64 0] 32 (0, 0))) (hHN : H ≤ N ∧ H ∉ wkF Bw Bm sw0 sl0 ∧ H + 1 ∉ wkF Bw Bm sw0 sl0)
    (hx1 : Bp ∉ wkF Bw Bm sw0 sl0) (hx2 : Ba ∉ wkF Bw Bm sw0 sl0) (hol : objs.length ≤ 100) (hm0 : met0.length ≤ 100) (hnd : met0.Nodup) (hsz : ∀ o ∈ objs, o.2.sz ≤ 1000)
    (hgo : ∀ (v14 v15 v16 v17 v19 v85 v86 v87 v88 v89 v90 v91 v92 v93 v94 v95 v96 v97 v98 v99 v100 v101 v102 v103 v104 v105 v106 v107 v108 v109 v110 v111 v112 v113 v114 v115 v116 v117 v118 v119 v120 v121 v122 v123 v124 v125 v126 : Value) (W : World) (sw sl : Value) (met : List Int) (vals : List VT), bfs objs (objs.length + 1) 0 met0 [] = some (met, vals) → WkAt W N Bw Ba Bm sw sl met → WkS [] W0 W Bw Bm sw0 sl0 sw sl → VRow W W0.heap.size (fun b => b < N) v14 vals → (∀ k, v14.ownBlock = some k → k ∉ wkF Bw Bm sw sl) → met.length ≤ 200000 → vals.length ≤ 100 → K .normal { tmps := #[u0, u1, u2, u3, .pointer (some ⟨H, 0, none⟩), .pointer (some ⟨H + 1, 0, none⟩), u6, u7, .pointer (some ⟨Bp, 0, none⟩), u9, u10, u11, u12, u13, v14, v15, v16, v17, u18, v19, u20, u21, u22, u23, u24, u25, u26, u27, u28, u29, u30, u31, u32, u33, u34, u35, u36, u37, u38, u39, u40, u41, u42, u43, u44, u45, u46, u47, u48, u49, u50, u51, u52, u53, u54, u55, u56, u57, u58, u59, u60, u61, u62, u63, u64, u65, u66, u67, u68, u69, u70, u71, u72, u73, u74, u75, u76, u77, u78, u79, u80, u81, u82, u83, u84, v85, v86, v87, v88, v89, v90, v91, v92, v93, v94, v95, v96, v97, v98, v99, v100, v101, v102, v103, v104, v105, v106, v107, v108, v109, v110, v111, v112, v113, v114, v115, v116, v117, v118, v119, v120, v121, v122, v123, v124, v125, v126, u127, u128, u129, u130, u131, u132, u133, u134, u135, u136, u137, u138, u139, u140, u141, u142, u143, u144, u145, u146, u147, u148, u149], defers := ds } W)
    (hno : bfs objs (objs.length + 1) 0 met0 [] = none → ∀ (v14 v15 v16 v17 v19 v85 v86 v87 v88 v89 v90 v91 v92 v93 v94 v95 v96 v97 v98 v99 v100 v101 v102 v103 v104 v105 v106 v107 v108 v109 v110 v111 v112 v113 v114 v115 v116 v117 v118 v119 v120 v121 v122 v123 v124 v125 v126 : Value) (W : World), W.heap[H]? = some (.cells #[.slice none 0 0, .slice none 0 0] 31 (0, 0)) → W.heap[H + 1]? = some (.cells #[.int .i64 5] 32 (0, 0)) → Below H W0 W → (∀ (D : Nat) o, W0.heap[D]? = some o → D ∉ wkF Bw Bm sw0 sl0 → D ≠ H → D ≠ H + 1 → W.heap[D]? = some o) → K .ret { tmps := #[u0, u1, u2, u3, .pointer (some ⟨H, 0, none⟩), .pointer (some ⟨H + 1, 0, none⟩), u6, u7, .pointer (some ⟨Bp, 0, none⟩), u9, u10, u11, u12, u13, v14, v15, v16, v17, u18, v19, u20, u21, u22, u23, u24, u25, u26, u27, u28, u29, u30, u31, u32, u33, u34, u35, u36, u37, u38, u39, u40, u41, u42, u43, u44, u45, u46, u47, u48, u49, u50, u51, u52, u53, u54, u55, u56, u57, u58, u59, u60, u61, u62, u63, u64, u65, u66, u67, u68, u69, u70, u71, u72, u73, u74, u75, u76, u77, u78, u79, u80, u81, u82, u83, u84, v85, v86, v87, v88, v89, v90, v91, v92, v93, v94, v95, v96, v97, v98, v99, v100, v101, v102, v103, v104, v105, v106, v107, v108, v109, v110, v111, v112, v113, v114, v115, v116, v117, v118, v119, v120, v121, v122, v123, v124, v125, v126, u127, u128, u129, u130, u131, u132, u133, u134, u135, u136, u137, u138, u139, u140, u141, u142, u143, u144, u145, u146, u147, u148, u149], defers := ds } W) :
    Code.wp Tryz.prog mkB4 K { tmps := #[u0, u1, u2, u3, .pointer (some ⟨H, 0, none⟩), .pointer (some ⟨H + 1, 0, none⟩), u6, u7, .pointer (some ⟨Bp, 0, none⟩), u9, u10, u11, u12, u13, .slice none 0 0, .int .i64 0, u16, u17, u18, u19, u20, u21, u22, u23, u24, u25, u26, u27, u28, u29, u30, u31, u32, u33, u34, u35, u36, u37, u38, u39, u40, u41, u42, u43, u44, u45, u46, u47, u48, u49, u50, u51, u52, u53, u54, u55, u56, u57, u58, u59, u60, u61, u62, u63, u64, u65, u66, u67, u68, u69, u70, u71, u72, u73, u74, u75, u76, u77, u78, u79, u80, u81, u82, u83, u84, u85, u86, u87, u88, u89, u90, u91, u92, u93, u94, u95, u96, u97, u98, u99, u100, u101, u102, u103, u104, u105, u106, u107, u108, u109, u110, u111, u112, u113, u114, u115, u116, u117, u118, u119, u120, u121, u122, u123, u124, u125, u126, u127, u128, u129, u130, u131, u132, u133, u134, u135, u136, u137, u138, u139, u140, u141, u142, u143, u144, u145, u146, u147, u148, u149], defers := ds } W0 := by
  have HGO := Lib.hid hgo
  have HNO := Lib.hid hno
  have HBP := Lib.hid hbp
  have HVA := Lib.hid hva
  have HALL := Lib.hid hall
  have HBH := Lib.hid hbH
  have HBE := Lib.hid hbE
  have HHN := Lib.hid hHN
  have HX1 := Lib.hid hx1
  have HX2 := Lib.hid hx2
  have HOL := Lib.hid hol
  have HSZ := Lib.hid hsz
  have HWK := Lib.hid hwk
  have h0 : Mk4I W0 N Bw Ba Bm sw0 sl0 objs met0 0 met0 [] sw0 sl0 (.slice none 0 0) W0 := ⟨hwk, WkS.refl _ _ _ _ _ _, VRow.nil _ _ _, (fun k hk => by simp [Value.ownBlock] at hk), by rw [Nat.sub_zero], hnd, Nat.zero_le _, (fun j hj => absurd hj (by omega)), by omega, rfl⟩
  have H0 := Lib.hid h0
  clear hgo hno hbp hva hall hbH hbE hHN hx1 hx2 hol hm0 hnd hsz hwk h0
  conv => arg 2; whnf
  go_wp2
  go_loopg [14, 15] (objs.length + 1) (fun gk s14 s15 wr => Mk4R W0 N Bw Ba Bm sw0 sl0 objs met0 gk s14 s15 wr)
  case atStart => exact ⟨0, met0, [], sw0, sl0, rfl, by omega, H0.out⟩
  case round =>
    obtain ⟨i, met, vals, sw, sl, rfl, hi, hI⟩ := hrel
    obtain ⟨av, cv, e14⟩ := hI.vr.form
    subst e14
    have hio := hI.small
    have HI := Lib.hid hI
    have HIG := Lib.hid hi
    have HIO := Lib.hid hio
    have HNI : Hid (∀ k, k < W0.heap.size → k ∉ wkF Bw Bm sw0 sl0 → k ∉ wkF Bw Bm sw sl) := fun k hk hn h => by
      rcases HI.out.ws.wkF h with e | e
      · exact hn e
      · omega
    have hpb := (HI.out.ws.block (lt_of_block HBP.out) HX1.out (by simp)).trans HBP.out
    have hwb := HI.out.wk.blk
    obtain ⟨aw, cw, esw, _⟩ := HI.out.wk.wt.form
    subst esw
    obtain ⟨m0, m1, m2, m3, mf⟩ := cells4 hwb
    have p0 : wr.cell? ⟨Bp, 0, none⟩ = some (.pointer (some ⟨Bw, 0, none⟩)) := by unfold World.cell?; rw [hpb]; rfl
    have HPB := Lib.hid hpb
    have i0 : (0 : Int) ≤ (i : Int) := by omega
    have il1 : (i : Int) ≤ 100 := by have := HOL.out; omega
    clear hI hi hio hpb hwb
    by_cases hlt : i < met.length
    · have i1 : (i : Int) < (met.length : Int) := by omega
      have HLT := Lib.hid hlt
      obtain ⟨id, hid⟩ : ∃ id, met[i]? = some id := ⟨_, List.getElem?_eq_getElem hlt⟩
      have HID := Lib.hid hid
      have hgd : met.getD i 0 = id := by simp [List.getD, hid]
      obtain ⟨gq, rfl, cq⟩ := HI.out.wk.wt.cell (i := i) hlt
      rw [hgd] at cq
      have HCQ := Lib.hid cq
      have hwid : (Lit.int .i64 id).wf = true := HI.out.wk.wf id (List.mem_of_getElem? hid)
      have hva : VMap Tryz.prog 3 wr Ba nv fa := HVA.out.chg HI.out.ws.1 (by rw [List.append_nil]; exact HX2.out)
      have HVA1 := Lib.hid hva
      have HGD := Lib.hid hgd
      have HWI := Lib.hid hwid
      have hall := HALL.out id
      have HBW := Lib.hid (WkS.below HWK.out HI.out.ws)
      have hlk : ∀ W, Chg [] wr W → (Instr.lookup 70 (.map (some Ba)) (.int .i64 id) true).run Tryz.prog W = .ok (.tuple #[(fa id).getD (.agg #[.int .i64 0, .int .i64 0, .string ⟨#[]⟩, .slice none 0 0]), .bool (fa id).isSome]) W := fun W hW => (HVA1.out.chg hW (by simp)).look Tryz.underlying3 Tryz.underlying70 (by kernel_rfl) HWI.out
      have hgqb : gq < wr.heap.size := HI.out.wk.wt.1.lt rfl
      have hS : ∀ W, Chg [] wr W → W.cell? ⟨Bp, 0, none⟩ = some (.pointer (some ⟨Bw, 0, none⟩)) ∧ W.cell? ⟨Bw, 0, none⟩ = some (.map (some Ba)) ∧ W.cell? ⟨Bw, 2, none⟩ = some (.slice (some ⟨gq, 0, none⟩) met.length cw) ∧ W.cell? ⟨gq, i, none⟩ = some (.int .i64 id) := fun W hW =>
        ⟨(hW.cell (p := ⟨Bp, 0, none⟩) (lt_of_block HPB.out) (by simp)).trans p0, (hW.cell (p := ⟨Bw, 0, none⟩) (lt_of_block HI.out.wk.blk) (by simp)).trans m0, (hW.cell (p := ⟨Bw, 2, none⟩) (lt_of_block HI.out.wk.blk) (by simp)).trans m2, (hW.cell (p := ⟨gq, i, none⟩) hgqb (by simp)).trans HCQ.out⟩
      have HS := Lib.hid hS
      cases hfo : findO objs id with
      | none =>
        rw [hfo] at hall
        simp only at hall
        have hlk2 : ∀ W, Chg [] wr W → (Instr.lookup 70 (.map (some Ba)) (.int .i64 id) true).run Tryz.prog W = .ok (.tuple #[.agg #[.int .i64 0, .int .i64 0, .string ⟨#[]⟩, .slice none 0 0], .bool false]) W := fun W hW => by have := hlk W hW; rw [hall] at this; exact this
        have hbn : bfs objs (objs.length + 1) 0 met0 [] = none := by
          rw [HI.out.bf, show objs.length + 1 - i = (objs.length - i) + 1 by have := HIO.out; omega, bfs, hid]
          simp only
          rw [hfo]
        have HBN := Lib.hid hbn
        have HLK := Lib.hid hlk2
        clear hall hlk hlk2 hbn hS cq hgd hwid hva hfo hid
        go_wp2
        go_region_held3 (fun w' => (w'.cell? ⟨Bp, 0, none⟩ = some (.pointer (some ⟨Bw, 0, none⟩)) ∧ w'.cell? ⟨Bw, 0, none⟩ = some (.map (some Ba)) ∧ w'.cell? ⟨Bw, 2, none⟩ = some (.slice (some ⟨gq, 0, none⟩) met.length cw) ∧ w'.cell? ⟨gq, i, none⟩ = some (.int .i64 id)) ∧ (Instr.lookup 70 (.map (some Ba)) (.int .i64 id) true).run Tryz.prog w' = .ok (.tuple #[.agg #[.int .i64 0, .int .i64 0, .string ⟨#[]⟩, .slice none 0 0], .bool false]) w')
          (first | exact ⟨HS.out _ (Chg.refl _ _), HLK.out _ (Chg.refl _ _)⟩ | exact ⟨HS.out _ ((Chg.refl _ _).drewN 1), HLK.out _ ((Chg.refl _ _).drewN 1)⟩ | exact ⟨HS.out _ (((Chg.refl _ _).drewN 1).alloc _), HLK.out _ (((Chg.refl _ _).drewN 1).alloc _)⟩ | exact ⟨HS.out _ (by repeat (first | exact (Chg.refl _ _).drewN 1 | refine Chg.setCell ?_ (.inr (by simp)) _ | refine Chg.alloc ?_ _)), HLK.out _ (by repeat (first | exact (Chg.refl _ _).drewN 1 | refine Chg.setCell ?_ (.inr (by simp)) _ | refine Chg.alloc ?_ _))⟩) (fail)
        all_goals
          have zH := (HI.out.ws.block (lt_of_block HBH.out) HHN.out.2.1 (by simp)).trans HBH.out
          have zE := (HI.out.ws.block (lt_of_block HBE.out) HHN.out.2.2 (by simp)).trans HBE.out
          have kH : ∀ o : Obj, ((wr.alloc o).cell? ⟨H, 0, none⟩ = some (.slice none 0 0) ∧ (wr.alloc o).cell? ⟨H, 1, none⟩ = some (.slice none 0 0) ∧ (wr.alloc o).cell? ⟨H + 1, 0, none⟩ = some (.int .i64 0)) ∧ (∀ j, (wr.alloc o).frozen? ⟨H, j, none⟩ = false) ∧ (∀ j, (wr.alloc o).frozen? ⟨H + 1, j, none⟩ = false) := fun o => by
            have h1 := (Below.heap_alloc wr o H (lt_of_block zH)).trans zH
            have h2 := (Below.heap_alloc wr o (H + 1) (lt_of_block zE)).trans zE
            exact ⟨⟨by simp [World.cell?, h1], by simp [World.cell?, h1], by simp [World.cell?, h2]⟩, fun j => by simp [World.frozen?, h1], fun j => by simp [World.frozen?, h2]⟩
          obtain ⟨⟨a0, a1, a2⟩, a3, a4⟩ := kH (.cells #[.int .i64 0, .int .i64 0, .string ⟨#[]⟩, .slice none 0 0] 47)
          have ZH := Lib.hid zH
          have ZE := Lib.hid zE
          clear kH zH zE
          go_wp2
          have g1 := (Below.heap_alloc wr (.cells #[.int .i64 0, .int .i64 0, .string ⟨#[]⟩, .slice none 0 0] 47) H (lt_of_block ZH.out)).trans ZH.out
          have g2 := (Below.heap_alloc wr (.cells #[.int .i64 0, .int .i64 0, .string ⟨#[]⟩, .slice none 0 0] 47) (H + 1) (lt_of_block ZE.out)).trans ZE.out
          obtain ⟨r1, r2, r3⟩ := res_set (a' := .slice none 0 0) (b' := .slice none 0 0) (c' := .int .i64 5) g1 g2
          refine HNO.out HBN.out _ _ _ _ _ _ _ _ _ _ _ _ _ _ _ _ _ _ _ _ _ _ _ _ _ _ _ _ _ _ _ _ _ _ _ _ _ _ _ _ _ _ _ _ _ _ _ _ r1 r2 ?_ (fun D o hD hDw h1 h2 => ?_)
          rotate_left
          · have hDl := (Array.getElem?_eq_some_iff.1 hD).1
            have hDr := HI.out.ws.block hDl hDw (by simp)
            have hDl2 := Nat.lt_of_lt_of_le hDl HI.out.ws.1.size
            exact (r3.block D (by simp; omega) (by simp; exact ⟨h1, h2⟩)).trans ((Below.heap_alloc _ _ _ hDl2).trans (hDr.trans hD))
          exact ((HBW.out.mono HHN.out.1).alloc (Nat.le_of_lt (lt_of_block ZH.out)) _).trans (((r3.below (by have := lt_of_block ZH.out; simp; omega) (by simp)).drew))
      | some t =>
        rw [hfo] at hall
        simp only at hall
        obtain ⟨at0, ct0, hfa, htv⟩ := hall
        have hlk2 : ∀ W, Chg [] wr W → (Instr.lookup 70 (.map (some Ba)) (.int .i64 id) true).run Tryz.prog W = .ok (.tuple #[.agg #[.int .i64 t.kind, .int .i64 t.num, .string t.text, .slice at0 t.kids.length ct0], .bool true]) W := fun W hW => by have := hlk W hW; rw [hfa] at this; exact this
        have HLK := Lib.hid hlk2
        have HTV := Lib.hid htv
        have HFO := Lib.hid hfo
        have htm : (id, t) ∈ objs := Gr.findO_mem hfo
        have hts := HSZ.out _ htm
        have HTS := Lib.hid hts
        clear hlk hlk2 hS cq hgd hwid hva hfo hid hfa htv htm hts
        go_wp2
        go_region_held3 (fun w' => (w'.cell? ⟨Bp, 0, none⟩ = some (.pointer (some ⟨Bw, 0, none⟩)) ∧ w'.cell? ⟨Bw, 0, none⟩ = some (.map (some Ba)) ∧ w'.cell? ⟨Bw, 2, none⟩ = some (.slice (some ⟨gq, 0, none⟩) met.length cw) ∧ w'.cell? ⟨gq, i, none⟩ = some (.int .i64 id)) ∧ (Instr.lookup 70 (.map (some Ba)) (.int .i64 id) true).run Tryz.prog w' = .ok (.tuple #[.agg #[.int .i64 t.kind, .int .i64 t.num, .string t.text, .slice at0 t.kids.length ct0], .bool true]) w')
          (first | exact ⟨HS.out _ (Chg.refl _ _), HLK.out _ (Chg.refl _ _)⟩ | exact ⟨HS.out _ ((Chg.refl _ _).drewN 1), HLK.out _ ((Chg.refl _ _).drewN 1)⟩ | exact ⟨HS.out _ (((Chg.refl _ _).drewN 1).alloc _), HLK.out _ (((Chg.refl _ _).drewN 1).alloc _)⟩ | exact ⟨HS.out _ (by repeat (first | exact (Chg.refl _ _).drewN 1 | refine Chg.setCell ?_ (.inr (by simp)) _ | refine Chg.alloc ?_ _)), HLK.out _ (by repeat (first | exact (Chg.refl _ _).drewN 1 | refine Chg.setCell ?_ (.inr (by simp)) _ | refine Chg.alloc ?_ _))⟩) (fail)
        all_goals
          have hbv := World.alloc_heap_new wr (.cells #[.int .i64 t.kind, .int .i64 t.num, .string t.text, .slice at0 t.kids.length ct0] 47)
          have hc1 : Chg [] wr ((wr.alloc (.cells #[.int .i64 t.kind, .int .i64 t.num, .string t.text, .slice at0 t.kids.length ct0] 47)).drew) := ((Chg.refl [] wr).alloc _).drewN 1
          have hs1 : ((wr.alloc (.cells #[.int .i64 t.kind, .int .i64 t.num, .string t.text, .slice at0 t.kids.length ct0] 47)).drew).heap.size = wr.heap.size + 1 := by simp
          have hbv1 : ((wr.alloc (.cells #[.int .i64 t.kind, .int .i64 t.num, .string t.text, .slice at0 t.kids.length ct0] 47)).drew).heap[wr.heap.size]? = some (.cells #[.int .i64 t.kind, .int .i64 t.num, .string t.text, .slice at0 t.kids.length ct0] 47 (0, 0)) := hbv
          generalize (wr.alloc (.cells #[.int .i64 t.kind, .int .i64 t.num, .string t.text, .slice at0 t.kids.length ct0] 47)).drew = W1 at hc1 hs1 hbv1 ⊢
          have hb1 : Below N W0 W1 := HBW.out.trans (hc1.below (Nat.le_trans HWK.out.n0 HBW.out.size) (by simp))
          have htv1 := HTV.out.below hb1 (fun b hb => hb)
          have hN1 : N ≤ W1.heap.size := Nat.le_trans HWK.out.n0 hb1.size
          have HRF := Lib.hid (refs_walk t.sz t (vval t at0 ct0) W1 (fun b => b < N) (Nat.le_refl _) htv1 (fun b hb => by omega) (by have := HTS.out; show t.sz ≤ _; exact Nat.le_trans this (by omega)))
          obtain ⟨t0, t1, t2, t3, _⟩ := hdr4_cells hbv1
          have HBV := Lib.hid hbv1
          have HC1 := Lib.hid hc1
          have HS1 := Lib.hid hs1
          have HTV1 := Lib.hid htv1
          have HRL : Hid (t.refs.length ≤ 1000) := Nat.le_trans (VT.refs_len t) HTS.out
          have HRW := Lib.hid (refs_wf t _ HTV.out)
          unfold vval at HRF
          clear hbv hc1 hs1 hbv1 hb1 htv1 hN1 m0 m1 m2 m3 mf p0
          generalize hrf : t.refs = rf at HRF HRL HRW
          have HRFE := Lib.hid hrf
          clear hrf
          go_upto_block 6 with (go_at_call 28; refine HRF.out.mono ?_; rintro e W2 ⟨vr, rfl, hir, hb2⟩; obtain ⟨ar, cr, er, _⟩ := hir.form; subst er; have HIR := Lib.hid hir; have HB2 := Lib.hid hb2; clear hir hb2)
        all_goals
          obtain ⟨wo, rfl⟩ : ∃ x, x = wr := ⟨wr, rfl⟩
          obtain ⟨gk0, rfl⟩ : ∃ x, x = gk := ⟨gk, rfl⟩
          have hwk2 : WkAt W2 N Bw Ba Bm (.slice (some ⟨gq, 0, none⟩) met.length cw) sl met := (HI.out.wk.chg HC1.out (by simp)).below HB2.out
          have HWK2 := Lib.hid hwk2
          have rl1 : (rf.length : Int) ≤ 1000 := by have := HRL.out; omega
          have hnl : ∀ k, k ∈ wkF Bw Bm (.slice (some ⟨gq, 0, none⟩) met.length cw) sl → k < wo.heap.size := fun k hk => HI.out.wk.lt hk
          have HNL := Lib.hid hnl
          clear hwk2 hnl t0 t1 t2 t3
          go_wp2
          go_loopg [115] rf.length (fun gk s115 wr => Mk6R W2 N Bw Ba Bm (.slice (some ⟨gq, 0, none⟩) met.length cw) sl met rf gk s115 wr)
          case atStart => exact ⟨0, _, _, rfl, by omega, HWK2.out, WkStep.refl _ _ _ _ _⟩
          case round =>
            obtain ⟨j, sw2, sl2, rfl, hj, hwkj, hstj⟩ := hrel
            have HJ := Lib.hid hj
            have HWJ := Lib.hid hwkj
            have HSJ := Lib.hid hstj
            have j0 : (0 : Int) ≤ (j : Int) := by omega
            have hzp := (hstj.1.block Bp (Nat.lt_of_lt_of_le (Nat.lt_of_lt_of_le (lt_of_block HPB.out) HC1.out.size) HB2.out.size) (HNI.out Bp (lt_of_block HBP.out) HX1.out)).trans ((HB2.out.block Bp (Nat.lt_of_lt_of_le (lt_of_block HPB.out) HC1.out.size)).trans ((HC1.out.block Bp (lt_of_block HPB.out) (by simp)).trans HPB.out))
            have p0 : wr.cell? ⟨Bp, 0, none⟩ = some (.pointer (some ⟨Bw, 0, none⟩)) := by unfold World.cell?; rw [hzp]; rfl
            clear hwkj hstj hzp hj
            by_cases hlt2 : j < rf.length
            · have j1 : (j : Int) < (rf.length : Int) := by omega
              obtain ⟨id2, hid2⟩ : ∃ x, rf[j]? = some x := ⟨_, List.getElem?_eq_getElem hlt2⟩
              have hirj : IRow wr W1.heap.size (.slice ar rf.length cr) rf := ⟨HIR.out.1.chg HSJ.out.1 (fun k hk h => by have h1 := HIR.out.2 k hk; have h2 := HNL.out k h; have h3 := HS1.out; omega), HIR.out.2⟩
              obtain ⟨gr, rfl, cj⟩ := hirj.cell hlt2
              have hgd2 : rf.getD j 0 = id2 := by simp [List.getD, hid2]
              rw [hgd2] at cj
              have hl2 : ((rf.take j).foldl meetT met).length ≤ 500000 := by
                have h1 := Gr.meets_len (rf.take j) met
                have h2 := HI.out.ml
                have h3 := HIO.out
                have h4 := HOL.out
                rw [List.length_take] at h1
                have h5 : i * 1000 ≤ 100 * 1000 := Nat.mul_le_mul_right _ (by omega)
                omega
              have HMT := Lib.hid (meet_any wr N Bw Ba Bm sw2 sl2 ((rf.take j).foldl meetT met) id2 HWJ.out hl2 (HRW.out id2 (List.mem_of_getElem? hid2)))
              have HLT2 := Lib.hid hlt2
              have HID2 := Lib.hid hid2
              clear hirj hgd2 hl2 hlt2 hid2
              go_wp2_with (go_at_call 27; refine HMT.out.mono ?_; rintro e w3 ⟨sw3, sl3, rfl, hwk3, hst3⟩; have HWK3 := Lib.hid hwk3; have HST3 := Lib.hid hst3; clear hwk3 hst3)
              go_roundg (gk - 1)
              case measure => have := HJ.out; have := HLT2.out; omega
              case rel => exact ⟨j + 1, sw3, sl3, by go_num, by have := HJ.out; have := HLT2.out; omega, by rw [List.take_add_one, HID2.out, List.foldl_append]; exact HWK3.out, HSJ.out.trans HST3.out⟩
            · have j1 : ¬ (j : Int) < (rf.length : Int) := by omega
              have hwj := HWJ.out
              rw [List.take_of_length_le (by omega)] at hwj
              have HW3 := Lib.hid hwj
              have hbsz : W1.heap.size ≤ wr.heap.size := Nat.le_trans HB2.out.size HSJ.out.1.size
              have hvl : wo.heap.size < W1.heap.size := by have := HS1.out; omega
              have hzv := (HSJ.out.1.block wo.heap.size (Nat.lt_of_lt_of_le hvl HB2.out.size) (fun h => by have := HNL.out _ h; omega)).trans ((HB2.out.block wo.heap.size hvl).trans HBV.out)
              obtain ⟨t0, t1, t2, t3, _⟩ := hdr4_cells hzv
              have hown := HI.out.vr
              have hvo : ∀ k, (Value.slice av vals.length cv).ownBlock = some k → k ∉ wkF Bw Bm (.slice (some ⟨gq, 0, none⟩) met.length cw) sl ∧ k < wo.heap.size ∧ W0.heap.size ≤ k := fun k hk => ⟨HI.out.vx k hk, hown.lt hk, hown.own hk⟩
              have hNw : N ≤ wo.heap.size := Nat.le_trans HWK.out.n0 HBW.out.size
              have hv1 := hown.chg HC1.out (by simp) (fun b hb => ⟨by omega, by simp⟩)
              have hv2 := hv1.chg (below_chg HB2.out) (by simp) (fun b hb => ⟨by omega, by simp⟩)
              have hv3 := hv2.chg HSJ.out.1 (fun k hk => (hvo k hk).1) (fun b hb => ⟨by have := HB2.out.size; omega, fun h => by have := wkF_ge HI.out.wk h; omega⟩)
              have HV3 := Lib.hid hv3
              have HVO := Lib.hid hvo
              have HNW := Lib.hid hNw
              have HBZ := Lib.hid hbsz
              have HVL := Lib.hid hvl
              have htv3 : ValIs wr (fun b => b < N) t (vval t at0 ct0) := (HTV1.out.below HB2.out (fun b hb => by omega)).chg HSJ.out.1 (fun b hb => ⟨by have := HB2.out.size; omega, fun h => by have := wkF_ge HI.out.wk h; omega⟩)
              have HT3 := Lib.hid htv3
              have vl1 : vals.length ≤ 100 := by have := HI.out.vl; have := HIO.out; have := HOL.out; omega
              have HVL1 := Lib.hid vl1
              clear hwj hbsz hvl hzv hown hvo hNw hv1 hv2 hv3 htv3 vl1
              go_wp2_with (at_builtin; refine wpList_appv (w := wr.alloc (.cells #[.int .i64 t.kind, .int .i64 t.num, .string t.text, .slice at0 t.kids.length ct0] 47)) (N := W0.heap.size) (P := fun b => b < N) (v := .slice av vals.length cv) (l := vals) (t := t) (p := (at0, ct0)) (ad := ⟨wr.heap.size, 0, none⟩) (c := 1) rfl _ _ rfl rfl (HV3.out.chg ((Chg.refl [] wr).alloc _) (by simp) (fun b hb => ⟨by have := HNW.out; have := HVL.out; have := HBZ.out; omega, by simp⟩)) rfl (cell_four_newG wr _ _ _ _ _) (HT3.out.chg ((Chg.refl [] wr).alloc _) (fun b hb => ⟨by have := HNW.out; have := HVL.out; have := HBZ.out; omega, by simp⟩)) (by have := HBW.out.size; have := HVL.out; have := HBZ.out; simp; omega) (by have := HVL1.out; omega) (fun b hb => ⟨by have := HNW.out; have := HVL.out; have := HBZ.out; simp; omega, fun h => by have := (HVO.out b h).2.2; have := HWK.out.n0; omega⟩) ?_; intro a9 c9 w9 hr9 ho9; have HR9 := Lib.hid hr9; have HO9 := Lib.hid ho9; clear hr9 ho9)
              go_roundg (gk0 - 1)
              case measure => have := HIG.out; have := HIO.out; omega
              case rel =>
                have hst0 : WkStep wo wr Bw Bm (.slice (some ⟨gq, 0, none⟩) met.length cw) sl sw2 sl2 := HSJ.out.preC (HC1.out.trans (below_chg HB2.out) (fun k hk => by cases hk))
                have hc9 : Chg (Value.slice av vals.length cv).ownBlock.toList wr w9 := ((Chg.refl _ wr).alloc _).trans HO9.out.1 (fun k hk => .inl hk)
                have hxx : ∀ k, k ∈ wkF Bw Bm sw2 sl2 → (Value.slice av vals.length cv).ownBlock ≠ some k := fun k hk h => by
                  rcases hst0.wkF hk with e | e
                  · exact (HVO.out k h).1 e
                  · have := (HVO.out k h).2.1; omega
                refine ⟨i + 1, rf.foldl meetT met, vals ++ [t], sw2, sl2, by go_num, by have := HIG.out; have := HIO.out; omega, ?_⟩
                exact {
                  wk := HW3.out.chg hc9 (fun k hk h => hxx k hk (by simpa using h))
                  ws := (HI.out.ws.step hst0).chg hc9 (fun k hk => .inr (HVO.out k (by simpa using hk)).2.2)
                  vr := HR9.out
                  vx := fun k hk h => by
                    rcases HO9.out.2 with e | ⟨q, e, hq⟩
                    · exact hxx k h (e ▸ hk)
                    · rw [hk] at e; cases e
                      have := HW3.out.lt h
                      simp at hq
                      omega
                  bf := by
                    rw [HI.out.bf, show objs.length + 1 - i = (objs.length - i) + 1 by have := HIO.out; omega, bfs, HID.out]
                    simp only
                    rw [HFO.out]
                    simp only
                    rw [HRFE.out, show objs.length + 1 - (i + 1) = objs.length - i by omega]
                  nd := Gr.meets_nodup HI.out.nd
                  il := by have := (Gr.meets_pre (l := rf) (met := met)).length_le; have := HLT.out; omega
                  fd := fun q hq => by
                    obtain ⟨x, hx⟩ := Gr.meets_pre (l := rf) (met := met)
                    have hlq : q < met.length := by have := HLT.out; omega
                    have he : (rf.foldl meetT met).getD q 0 = met.getD q 0 := by rw [← hx]; simp [List.getD, List.getElem?_append_left hlq]
                    rw [he]
                    by_cases hqi : q < i
                    · exact HI.out.fd q hqi
                    · have : q = i := by omega
                      subst this
                      exact ⟨t, by rw [HGD.out]; exact HFO.out⟩
                  ml := by have h1 := Gr.meets_len rf met; have h2 := HI.out.ml; have h3 := HRL.out; omega
                  vl := by rw [List.length_append, List.length_singleton, HI.out.vl] }
    · have i1 : ¬ (i : Int) < (met.length : Int) := by omega
      have hz : i = met.length := by have := HI.out.il; omega
      have hbn : bfs objs (objs.length + 1) 0 met0 [] = some (met, vals) := by
        rw [HI.out.bf, show objs.length + 1 - i = (objs.length - i) + 1 by have := HIO.out; omega, bfs, List.getElem?_eq_none (by omega)]
      have HBN := Lib.hid hbn
      have hq : met.length ≤ 200000 ∧ vals.length ≤ 100 := by have := HI.out.ml; have := HI.out.vl; have := HIO.out; have := HOL.out; constructor <;> omega
      have HQ := Lib.hid hq
      clear hbn hz hlt hq
      go_wp2
      exact HGO.out _ _ _ _ _ _ _ _ _ _ _ _ _ _ _ _ _ _ _ _ _ _ _ _ _ _ _ _ _ _ _ _ _ _ _ _ _ _ _ _ _ _ _ _ _ _ _ _ _ _ _ _ HBN.out HI.out.wk HI.out.ws HI.out.vr HI.out.vx HQ.out.1 HQ.out.2
end Go.Proofs.YtenikoecnfbfoaaGreatDoor
/- Layer 8: Make's loop over the values, over letters. -/
namespace Go.Proofs.YtenikoecnfbfoaaGreatDoor
open Go.RowKit Go.Maps
set_option linter.unusedVariables false
set_option linter.unusedSimpArgs false
open Gr (RT meetT pairs numOf)
noncomputable def mkB8 : Code := ((Tryz.f8.body.bind (blkOf 8)).getD .skip)
theorem first_eqG : ∀ zs : List PW, firstOf zs = firstP (zs.map (·.1))
  | [] => by funext n; rfl
  | x :: zs => by
    funext n
    have ih := congrFun (first_eqG zs) n
    unfold firstOf at ih ⊢
    rw [List.reverse_cons, asg_snoc, List.map_cons, firstP]
    unfold upd
    by_cases h : x.1.1 = n
    · rw [if_pos h.symm, if_pos h]
    · rw [if_neg (fun e => h e.symm), if_neg h]; exact ih
theorem pairsF_wf : ∀ (l : List Int) (k : Nat), (∀ id ∈ l, (Lit.int .i64 id).wf = true) → k + l.length ≤ 1000000 → ((Gr.pairsF k l).map fun p => pw p.1 p.2).map (·.1) = Gr.pairsF k l
  | [], _, _, _ => rfl
  | x :: l, k, h, hk => by
    rw [List.length_cons] at hk
    rw [Gr.pairsF, List.map_cons, List.map_cons, pairsF_wf l (k + 1) (fun y hy => h y (List.mem_cons_of_mem _ hy)) (by omega), pw_val (h x (List.mem_cons_self ..)) (WalkArith.wf_i64 (by omega))]
theorem first_pws {met : List Int} (h : ∀ id ∈ met, (Lit.int .i64 id).wf = true) (hl : met.length ≤ 500000) : firstOf (pws met) = firstP (pairs met) := by
  rw [first_eqG]
  unfold pws pairs
  rw [pairsF_wf met 1 h (by omega)]
theorem VRow.get {w : World} {N n cap : Nat} {P : Nat → Prop} {ao : Option Addr} {l : List VT} (h : VRow w N P (.slice ao n cap) l) {i : Nat} {t : VT} (hi : l[i]? = some t) : ∃ b a c, ao = some ⟨b, 0, none⟩ ∧ b < w.heap.size ∧ N ≤ b ∧
    w.cell? ⟨b, i * 4, none⟩ = some (.int .i64 t.kind) ∧ w.cell? ⟨b, i * 4 + 1, none⟩ = some (.int .i64 t.num) ∧ w.cell? ⟨b, i * 4 + 2, none⟩ = some (.string t.text) ∧ w.cell? ⟨b, i * 4 + 3, none⟩ = some (.slice a t.kids.length c) ∧ ValIs w P t (vval t a c) := by
  obtain ⟨ps, h1, h2, h3, h4⟩ := h
  have hil := (List.getElem?_eq_some_iff.1 hi).1
  obtain ⟨p, hp⟩ : ∃ p, ps[i]? = some p := ⟨_, List.getElem?_eq_getElem (by omega)⟩
  obtain ⟨ao', cap', e, hle, hm, hn, hs⟩ := h2.form
  cases e
  cases ao with
  | none => have := (hn rfl).1; omega
  | some a =>
    obtain ⟨g, rfl, hg, hgb⟩ := hs a rfl
    have hlen := kcells_length h1
    have c : ∀ r, r < 4 → w.cell? ⟨g, i * 4 + r, none⟩ = (kcell t p)[r]? := fun r hr => by
      rw [← kcells_get hi hp hr]
      exact h2.cellAt _ (by rw [hlen]; omega)
    exact ⟨g, p.1, p.2, rfl, hg, h3 g hgb, c 0 (by omega), c 1 (by omega), c 2 (by omega), c 3 (by omega), h4 i t p hi hp⟩
/-- The value that is moved. -/
def mvT (met : List Int) (v : VT) : VT := (v.move (firstP (pairs met))).getD zeroT
/-- The graph's values under way: what they name lies below N, or is new, and not in the row itself. -/
def ORow (w : World) (N B : Nat) (v : Value) (l : List VT) : Prop := VRow w B (fun b => (b < N ∨ B ≤ b) ∧ b < w.heap.size ∧ v.ownBlock ≠ some b) v l
def Mk8R (W0 : World) (N Bg : Nat) (rows : Value) (met : List Int) (vals : List VT) (gk : Nat) (s129 : Value) (wr : World) : Prop :=
  ∃ (j : Nat) (og : Value), s129 = .int .i64 (j : Int) ∧ j + gk = vals.length ∧ wr.heap[Bg]? = some (.cells #[rows, og] 31 (0, 0)) ∧ ORow wr N W0.heap.size og ((vals.take j).map (mvT met)) ∧ Chg [Bg] W0 wr
/-- Behind the region that moves one: its box. -/
def Box8 (N : Nat) (W1 W : World) (q : Nat) (t : VT) (ao : Option Addr) (cap : Nat) : Prop :=
  W1.heap.size ≤ q ∧ Chg [] W1 W ∧ W.heap[q]? = some (.cells #[.int .i64 t.kind, .int .i64 t.num, .string t.text, .slice ao t.kids.length cap] 47 (0, 0)) ∧ ValIs W (fun b => (b < N ∨ W1.heap.size ≤ b) ∧ b < W.heap.size) t (vval t ao cap)
theorem box_b {N : Nat} {W1 w5 : World} {t : VT} {a5 : Option Addr} {c5 : Nat} (hc : Chg [] W1 w5) (hv : ValIs w5 (fun b => (b < N ∨ W1.drew.heap.size ≤ b) ∧ b < w5.heap.size) t (.agg #[.int .i64 t.kind, .int .i64 t.num, .string t.text, .slice a5 t.kids.length c5])) :
    Box8 N W1 (w5.alloc (.cells #[.int .i64 t.kind, .int .i64 t.num, .string t.text, .slice a5 t.kids.length c5] 47)) w5.heap.size t a5 c5 :=
  ⟨hc.size, hc.alloc _, World.alloc_heap_new _ _, (hv.chg ((Chg.refl [] w5).alloc _) (fun b hb => ⟨hb.2, by simp⟩)).mono (fun b hb => ⟨hb.1, by simp; have := hb.2; omega⟩)⟩
theorem box_a {N : Nat} {W1 w5 : World} {t : VT} {a5 : Option Addr} {c5 : Nat} {x0 x1 x2 x3 : Value} {o : Obj} (hc : Chg [] W1 w5) (hv : ValIs w5 (fun b => (b < N ∨ (W1.alloc o).drew.heap.size ≤ b) ∧ b < w5.heap.size) t (.agg #[.int .i64 t.kind, .int .i64 t.num, .string t.text, .slice a5 t.kids.length c5]))
    (hz : w5.heap[W1.heap.size]? = some (.cells #[x0, x1, x2, x3] 47 (0, 0))) (hN : N ≤ W1.heap.size) :
    Box8 N W1 ((((w5.setCell ⟨W1.heap.size, 0, none⟩ (.int .i64 t.kind)).setCell ⟨W1.heap.size, 1, none⟩ (.int .i64 t.num)).setCell ⟨W1.heap.size, 2, none⟩ (.string t.text)).setCell ⟨W1.heap.size, 3, none⟩ (.slice a5 t.kids.length c5)) W1.heap.size t a5 c5 := by
  have hcc := four_stores (p := W1.heap.size) (Chg.refl [W1.heap.size] w5) (.inl (by simp)) (.int .i64 t.kind) (.int .i64 t.num) (.string t.text) (.slice a5 t.kids.length c5)
  refine ⟨Nat.le_refl _, four_stores hc (.inr (Nat.le_refl _)) _ _ _ _, four_stored hz, (hv.chg hcc (fun b hb => ⟨hb.2, ?_⟩)).mono (fun b hb => ⟨hb.1.imp_right (fun h => ?_), Nat.lt_of_lt_of_le hb.2 hcc.size⟩)⟩
  · simp only [List.mem_singleton]
    rcases hb.1 with h | h
    · omega
    · have h : W1.heap.size + 1 ≤ b := by simpa using h
      omega
  · have h : W1.heap.size + 1 ≤ b := by simpa using h
    omega
set_option maxRecDepth 100000 in
set_option maxHeartbeats 8000000 in
theorem mk8 {K : Exit → Act → World → Prop} {ds : List Deferred} {W0 : World} {N Bw Ba Bm Bp Bg cv : Nat} {sw sl rows : Value} {met : List Int} {av : Option Addr} {vals : List VT} {u0 u1 u2 u3 u4 u5 u6 u7 u9 u10 u12 u13 u14 u15 u16 u17 u18 u19 u20 u21 u22 u23 u24 u25 u26 u27 u28 u29 u30 u31 u32 u33 u34 u35 u36 u37 u38 u39 u40 u41 u42 u43 u44 u45 u46 u47 u48 u49 u50 u51 u52 u53 u54 u55 u56 u57 u58 u59 u60 u61 u62 u63 u64 u65 u66 u67 u68 u69 u70 u71 u72 u73 u74 u75 u76 u77 u78 u79 u80 u81 u82 u83 u84 u85 u86 u87 u88 u89 u90 u91 u92 u93 u94 u95 u96 u97 u98 u99 u100 u101 u102 u103 u104 u105 u106 u107 u108 u109 u110 u111 u112 u113 u114 u115 u116 u117 u118 u119 u120 u121 u122 u123 u124 u125 u126 u130 u131 u132 u133 u134 u135 u136 u137 u138 u139 u140 u141 u142 u143 u144 u145 u146 u147 u148 u149 : Value}
    (hwk : WkAt W0 N Bw Ba Bm sw sl met) (hml : met.length ≤ 500000) (hbp : W0.heap[Bp]? = some (.cells #[.pointer (some ⟨Bw, 0, none⟩)] 69 (0, 0))) (hbg : W0.heap[Bg]? = some (.cells #[rows, .slice none 0 0] 31 (0, 0)))
    {M : Nat} (hvr : VRow W0 M (fun b => b < N) (.slice av vals.length cv) vals) (hx1 : Bg ∉ wkF Bw Bm sw sl) (hx2 : Bg ≠ Bp) (hx3 : ∀ k, (Value.slice av vals.length cv).ownBlock = some k → k ≠ Bg) (hgN : N ≤ Bg) (hvl : vals.length ≤ 100) (hsz : ∀ v ∈ vals, v.sz ≤ 1000)
    (hgo : ∀ (v21 v22 v23 v129 v130 v131 v132 v133 v134 v135 v136 v137 v138 v139 v140 v141 v142 v143 v144 v145 v146 v147 v148 : Value) (W : World) (og : Value), W.heap[Bg]? = some (.cells #[rows, og] 31 (0, 0)) → ORow W N W0.heap.size og (vals.map (mvT met)) → Chg [Bg] W0 W → K .normal { tmps := #[u0, u1, u2, u3, u4, u5, u6, u7, .pointer (some ⟨Bp, 0, none⟩), u9, u10, .pointer (some ⟨Bg, 0, none⟩), u12, u13, u14, u15, u16, u17, u18, u19, u20, v21, v22, v23, u24, u25, u26, u27, u28, u29, u30, u31, u32, u33, u34, u35, u36, u37, u38, u39, u40, u41, u42, u43, u44, u45, u46, u47, u48, u49, u50, u51, u52, u53, u54, u55, u56, u57, u58, u59, u60, u61, u62, u63, u64, u65, u66, u67, u68, u69, u70, u71, u72, u73, u74, u75, u76, u77, u78, u79, u80, u81, u82, u83, u84, u85, u86, u87, u88, u89, u90, u91, u92, u93, u94, u95, u96, u97, u98, u99, u100, u101, u102, u103, u104, u105, u106, u107, u108, u109, u110, u111, u112, u113, u114, u115, u116, u117, u118, u119, u120, u121, u122, u123, u124, u125, u126, .slice av vals.length cv, .int .i64 (vals.length : Int), v129, v130, v131, v132, v133, v134, v135, v136, v137, v138, v139, v140, v141, v142, v143, v144, v145, v146, v147, v148, u149], defers := ds } W) :
    Code.wp Tryz.prog mkB8 K { tmps := #[u0, u1, u2, u3, u4, u5, u6, u7, .pointer (some ⟨Bp, 0, none⟩), u9, u10, .pointer (some ⟨Bg, 0, none⟩), u12, u13, u14, u15, u16, u17, u18, u19, u20, u21, u22, u23, u24, u25, u26, u27, u28, u29, u30, u31, u32, u33, u34, u35, u36, u37, u38, u39, u40, u41, u42, u43, u44, u45, u46, u47, u48, u49, u50, u51, u52, u53, u54, u55, u56, u57, u58, u59, u60, u61, u62, u63, u64, u65, u66, u67, u68, u69, u70, u71, u72, u73, u74, u75, u76, u77, u78, u79, u80, u81, u82, u83, u84, u85, u86, u87, u88, u89, u90, u91, u92, u93, u94, u95, u96, u97, u98, u99, u100, u101, u102, u103, u104, u105, u106, u107, u108, u109, u110, u111, u112, u113, u114, u115, u116, u117, u118, u119, u120, u121, u122, u123, u124, u125, u126, .slice av vals.length cv, .int .i64 (vals.length : Int), .int .i64 0, u130, u131, u132, u133, u134, u135, u136, u137, u138, u139, u140, u141, u142, u143, u144, u145, u146, u147, u148, u149], defers := ds } W0 := by
  have HGO := Lib.hid hgo
  have HWK := Lib.hid hwk
  have HBP := Lib.hid hbp
  have HBG := Lib.hid hbg
  have HVR := Lib.hid hvr
  have HX1 := Lib.hid hx1
  have HX2 := Lib.hid hx2
  have HX3 := Lib.hid hx3
  have HGN := Lib.hid hgN
  have HSZ := Lib.hid hsz
  have HFI := Lib.hid (first_pws hwk.wf hml)
  have HML := Lib.hid hml
  have vl1 : (vals.length : Int) ≤ 100 := by omega
  have HVL := Lib.hid hvl
  clear hgo hwk hbp hbg hvr hx1 hx2 hx3 hgN hsz hml hvl
  conv => arg 2; whnf
  go_wp2
  go_loopg [129] vals.length (fun gk s129 wr => Mk8R W0 N Bg rows met vals gk s129 wr)
  case atStart => exact ⟨0, .slice none 0 0, rfl, by omega, HBG.out, VRow.nil _ _ _, Chg.refl _ _⟩
  case round =>
    obtain ⟨j, og, rfl, hj, hbg, hor, hch⟩ := hrel
    have HJ := Lib.hid hj
    have HBG1 := Lib.hid hbg
    have HOR := Lib.hid hor
    have HCH := Lib.hid hch
    have j0 : (0 : Int) ≤ (j : Int) := by omega
    clear hj hbg hor hch
    by_cases hlt : j < vals.length
    · have j1 : (j : Int) < (vals.length : Int) := by omega
      obtain ⟨t, ht⟩ : ∃ t, vals[j]? = some t := ⟨_, List.getElem?_eq_getElem hlt⟩
      have HT := Lib.hid ht
      have HLT := Lib.hid hlt
      have hbd : ∀ k, k < W0.heap.size → k ≠ Bg → wr.heap[k]? = W0.heap[k]? := fun k hk hn => HCH.out.block k hk (by simpa using hn)
      have hpb := (hbd Bp (lt_of_block HBP.out) (fun e => HX2.out e.symm)).trans HBP.out
      have hwk := HWK.out.chg HCH.out (fun k hk => by simp only [List.mem_singleton]; rintro rfl; exact HX1.out hk)
      have hvr := HVR.out.chg HCH.out (fun k hk => by simp only [List.mem_singleton]; exact HX3.out k hk) (fun b hb => ⟨Nat.lt_of_lt_of_le hb HWK.out.n0, by simp only [List.mem_singleton]; have := HGN.out; omega⟩)
      obtain ⟨b, at0, ct0, rfl, hbl, hbM, t0, t1, t2, t3, htv⟩ := hvr.get ht
      have HWK1 := Lib.hid hwk
      have HPB := Lib.hid hpb
      have HVR1 := Lib.hid hvr
      have HTV := Lib.hid htv
      have hts := HSZ.out t (List.mem_of_getElem? ht)
      have HTS := Lib.hid hts
      have hN : N ≤ wr.heap.size := Nat.le_trans HWK.out.n0 HCH.out.size
      have HN := Lib.hid hN
      obtain ⟨ao, co, eo⟩ := HOR.out.form
      rw [List.length_map, List.length_take, Nat.min_eq_left (by omega)] at eo
      subst eo
      clear ht hlt hbd hpb hwk hvr hbl hbM htv hts hN
      obtain ⟨asl, cs, es⟩ := HWK1.out.pr.form
      subst es
      go_wp2
      have hbx := World.alloc_heap_new wr (.cells #[.int .i64 t.kind, .int .i64 t.num, .string t.text, .slice at0 t.kids.length ct0] 47)
      have hc1 : Chg [] wr (wr.alloc (.cells #[.int .i64 t.kind, .int .i64 t.num, .string t.text, .slice at0 t.kids.length ct0] 47)) := (Chg.refl [] wr).alloc _
      generalize wr.alloc (.cells #[.int .i64 t.kind, .int .i64 t.num, .string t.text, .slice at0 t.kids.length ct0] 47) = W1 at hbx hc1 ⊢
      have hb1 : Below wr.heap.size wr W1 := hc1.below (Nat.le_refl _) (by simp)
      have hwk1 := HWK1.out.below hb1
      obtain ⟨mb, hmb⟩ : ∃ mb, (t.move (firstP (pairs met))).isSome = mb := ⟨_, rfl⟩
      have hmv : ∀ W, Chg [] W1 W → Calls Tryz.prog 29 #[.agg #[.int .i64 t.kind, .int .i64 t.num, .string t.text, .slice at0 t.kids.length ct0], .slice asl (pws met).length cs] W (fun e w' => ∃ v, e = .returned (.tuple #[v, .bool mb]) ∧ ValIs w' (fun b => (b < N ∨ W.heap.size ≤ b) ∧ b < w'.heap.size) (mvT met t) v ∧ Below W.heap.size W w') := fun W hW => by
        have hbW : Below W1.heap.size W1 W := hW.below (Nat.le_refl _) (by simp)
        have h := move_any t (vval t at0 ct0) W (fun b => b < N) (.slice asl (pws met).length cs) (pws met) (by have := HTS.out; omega) (((HTV.out.below hb1 (fun b hb => Nat.lt_of_lt_of_le hb HN.out))).below hbW (fun b hb => Nat.lt_of_lt_of_le (Nat.lt_of_lt_of_le hb HN.out) hb1.size)) (fun b hb => Nat.lt_of_lt_of_le (Nat.lt_of_lt_of_le (Nat.lt_of_lt_of_le hb HN.out) hb1.size) hbW.size) (by rw [pws_len]; have := HML.out; omega) ((hwk1.pr.chg hW (by simp)).is) ⟨_, _, _, rfl⟩
        rw [HFI.out] at h
        unfold MoveEnd at h
        rw [hmb] at h
        exact h
      have zp1 := (hb1.block Bp (lt_of_block HPB.out)).trans HPB.out
      have hS : ∀ W, Chg [] W1 W → (W.cell? ⟨wr.heap.size, 0, none⟩ = some (.int .i64 t.kind) ∧ W.cell? ⟨wr.heap.size, 1, none⟩ = some (.int .i64 t.num) ∧ W.cell? ⟨wr.heap.size, 2, none⟩ = some (.string t.text) ∧ W.cell? ⟨wr.heap.size, 3, none⟩ = some (.slice at0 t.kids.length ct0)) ∧ W.cell? ⟨Bp, 0, none⟩ = some (.pointer (some ⟨Bw, 0, none⟩)) ∧ W.cell? ⟨Bw, 3, none⟩ = some (.slice asl (pws met).length cs) := fun W hW => by
        have g1 := (hW.block _ (lt_of_block hbx) (by simp)).trans hbx
        have g2 := (hW.block _ (lt_of_block zp1) (by simp)).trans zp1
        have g3 := (hW.block _ (lt_of_block hwk1.blk) (by simp)).trans hwk1.blk
        refine ⟨⟨by simp [World.cell?, g1], by simp [World.cell?, g1], by simp [World.cell?, g1], by simp [World.cell?, g1]⟩, by simp [World.cell?, g2], by simp [World.cell?, g3]⟩
      have HS := Lib.hid hS
      have HMV := Lib.hid hmv
      have HC1 := Lib.hid hc1
      have HB1 := Lib.hid hb1
      have hN1 : N ≤ W1.heap.size := Nat.le_trans HN.out hb1.size
      have HN1 := Lib.hid hN1
      generalize hBx : wr.heap.size = Bx at hS HS ⊢
      clear hbx hc1 hb1 hwk1 hmv zp1 hS hmb t0 t1 t2 t3 hN1
      go_region_held3 (fun W => (W.cell? ⟨Bx, 0, none⟩ = some (.int .i64 t.kind) ∧ W.cell? ⟨Bx, 1, none⟩ = some (.int .i64 t.num) ∧ W.cell? ⟨Bx, 2, none⟩ = some (.string t.text) ∧ W.cell? ⟨Bx, 3, none⟩ = some (.slice at0 t.kids.length ct0)) ∧ W.cell? ⟨Bp, 0, none⟩ = some (.pointer (some ⟨Bw, 0, none⟩)) ∧ W.cell? ⟨Bw, 3, none⟩ = some (.slice asl (pws met).length cs))
        (exact HS.out _ (by repeat (first | exact HC5.out | exact Chg.refl _ _ | refine chg_drew ?_ | refine Chg.setCell ?_ (.inr (by simp)) _ | refine Chg.alloc ?_ _)))
        (first
          | (go_at_call 29; (with_reducible refine (HMV.out ((W1.alloc (.cells #[.int .i64 0, .int .i64 0, .string ⟨#[]⟩, .slice none 0 0] 47)).drew) (by repeat (first | exact Chg.refl _ _ | refine chg_drew ?_ | refine Chg.setCell ?_ (.inr (by simp)) _ | refine Chg.alloc ?_ _))).mono ?_); clear HMV; rintro e w5 ⟨v5, rfl, hv5, hb5⟩; obtain ⟨a5, c5, rfl⟩ := hv5.form; have HV5 := Lib.hid hv5; have HB5 := Lib.hid hb5; have hc5 : Chg [] W1 w5 := (by refine Chg.trans (F := []) ?_ (below_chg hb5) (fun k hk => by cases hk); repeat (first | exact Chg.refl _ _ | refine chg_drew ?_ | refine Chg.setCell ?_ (.inr (by simp)) _ | refine Chg.alloc ?_ _)); have HC5 := Lib.hid hc5; clear hc5; have hz := (hb5.block W1.heap.size (by simp)).trans (World.alloc_heap_new W1 (.cells #[.int .i64 0, .int .i64 0, .string ⟨#[]⟩, .slice none 0 0] 47)); obtain ⟨z0, z1, z2, z3, z4⟩ := hdr4_cells hz; have HZ := Lib.hid hz; clear hz hv5 hb5; unfold vval at HV5 ⊢)
          | (go_at_call 29; (with_reducible refine (HMV.out W1.drew (by repeat (first | exact Chg.refl _ _ | refine chg_drew ?_ | refine Chg.setCell ?_ (.inr (by simp)) _ | refine Chg.alloc ?_ _))).mono ?_); clear HMV; rintro e w5 ⟨v5, rfl, hv5, hb5⟩; obtain ⟨a5, c5, rfl⟩ := hv5.form; have HV5 := Lib.hid hv5; have HB5 := Lib.hid hb5; have hc5 : Chg [] W1 w5 := (by refine Chg.trans (F := []) ?_ (below_chg hb5) (fun k hk => by cases hk); repeat (first | exact Chg.refl _ _ | refine chg_drew ?_ | refine Chg.setCell ?_ (.inr (by simp)) _ | refine Chg.alloc ?_ _)); have HC5 := Lib.hid hc5; clear hc5; clear hv5 hb5; unfold vval at HV5 ⊢))
      · have hbx := box_b (N := N) HC5.out HV5.out
        have HBX := Lib.hid hbx
        clear hbx
        generalize w5.alloc (.cells #[.int .i64 (mvT met t).kind, .int .i64 (mvT met t).num, .string (mvT met t).text, .slice a5 (mvT met t).kids.length c5] 47) = W2 at HBX ⊢
        have zg := (HBX.out.2.1.block Bg (Nat.lt_of_lt_of_le (lt_of_block HBG1.out) HC1.out.size) (by simp)).trans ((HC1.out.block Bg (lt_of_block HBG1.out) (by simp)).trans HBG1.out)
        have y1 : W2.cell? ⟨Bg, 1, none⟩ = some (.slice ao j co) := by unfold World.cell?; rw [zg]; rfl
        have y2 : ∀ i, W2.frozen? ⟨Bg, i, none⟩ = false := fun i => by simp [World.frozen?, zg]
        obtain ⟨t0, t1, t2, t3, _⟩ := hdr4_cells HBX.out.2.2.1
        have hlw : wr.heap.size ≤ W1.heap.size := HC1.out.size
        have hl0 : W0.heap.size ≤ wr.heap.size := HCH.out.size
        have hl2 : W1.heap.size ≤ W2.heap.size := HBX.out.2.1.size
        have hown : ∀ k, (Value.slice ao j co).ownBlock = some k → W0.heap.size ≤ k ∧ k < wr.heap.size := fun k hk => ⟨HOR.out.own hk, HOR.out.lt hk⟩
        have hN0 := HWK.out.n0
        have hg0 := lt_of_block HBG.out
        have hc2 : Chg [] wr W2 := HC1.out.trans HBX.out.2.1 (fun k hk => by cases hk)
        have hr2 : VRow W2 W0.heap.size (fun b => (b < N ∨ W0.heap.size ≤ b) ∧ b < W2.heap.size ∧ (Value.slice ao j co).ownBlock ≠ some b) (.slice ao j co) ((vals.take j).map (mvT met)) := (VRow.chg HOR.out hc2 (by simp) (fun b hb => ⟨hb.2.1, by simp⟩)).mono (fun b hb => ⟨hb.1, Nat.lt_of_lt_of_le hb.2.1 hc2.size, hb.2.2⟩)
        have hv2 : ValIs W2 (fun b => (b < N ∨ W0.heap.size ≤ b) ∧ b < W2.heap.size ∧ (Value.slice ao j co).ownBlock ≠ some b) (mvT met t) (vval (mvT met t) a5 c5) := HBX.out.2.2.2.mono (fun b hb => ⟨hb.1.imp_right (fun h => by omega), hb.2, fun h => by have := hown b h; rcases hb.1 with h1 | h1 <;> omega⟩)
        have HL := Lib.hid (And.intro hlw (And.intro hl0 (And.intro hl2 (And.intro hN0 hg0))))
        have HOWN := Lib.hid hown
        have HC2 := Lib.hid hc2
        have HR2 := Lib.hid hr2
        have HV2 := Lib.hid hv2
        have HZG := Lib.hid zg
        clear hlw hl0 hl2 hown hN0 hg0 hc2 hr2 hv2 zg
        have ll : ((vals.take j).map (mvT met)).length = j := by rw [List.length_map, List.length_take]; have := HLT.out; omega
        have HLL := Lib.hid ll
        clear ll
        go_wp2_with (at_builtin; refine wpList_appv (w := W2.alloc (.cells #[.int .i64 (mvT met t).kind, .int .i64 (mvT met t).num, .string (mvT met t).text, .slice a5 (mvT met t).kids.length c5] 47)) (N := W0.heap.size) (P := fun b => (b < N ∨ W0.heap.size ≤ b) ∧ b < W2.heap.size ∧ (Value.slice ao j co).ownBlock ≠ some b) (v := .slice ao j co) (l := (vals.take j).map (mvT met)) (t := mvT met t) (p := (a5, c5)) (ad := ⟨W2.heap.size, 0, none⟩) (c := 1) rfl _ _ rfl rfl (HR2.out.chg ((Chg.refl [] W2).alloc _) (by simp) (fun b hb => ⟨hb.2.1, by simp⟩)) rfl (cell_four_newG W2 _ _ _ _ _) (HV2.out.chg ((Chg.refl [] W2).alloc _) (fun b hb => ⟨hb.2.1, by simp⟩)) (by have := HL.out; simp; omega) (by rw [HLL.out]; have := HLT.out; have := HVL.out; omega) (fun b hb => ⟨by have := hb.2.1; simp; omega, hb.2.2⟩) ?_; intro a9 c9 w9 hr9 ho9; rw [HLL.out] at hr9 ho9 ⊢; have hz9 := (ho9.block (by have := lt_of_block HZG.out; simp; omega) (fun h => by have := (HOWN.out Bg h).1; have := HL.out; omega)).trans ((Below.heap_alloc _ _ _ (lt_of_block HZG.out)).trans HZG.out); have yy1 : w9.cell? ⟨Bg, 1, none⟩ = some (.slice ao j co) := (by unfold World.cell?; rw [hz9]; rfl); have yy2 : ∀ i, w9.frozen? ⟨Bg, i, none⟩ = false := (fun i => by simp [World.frozen?, hz9]); have HR9 := Lib.hid hr9; have HO9 := Lib.hid ho9; have HZ9 := Lib.hid hz9; clear hr9 ho9 hz9)
        have hz10 := (heap_setCell_same w9 Bg 1 _ _ (.slice a9 (j + 1) c9) HZ9.out).trans rfl
        have hc10 : Chg [Bg] w9 (w9.setCell ⟨Bg, 1, none⟩ (.slice a9 (j + 1) c9)) := (Chg.refl _ _).setCell (.inl (by simp)) _
        generalize w9.setCell ⟨Bg, 1, none⟩ (.slice a9 (j + 1) c9) = w10 at hz10 hc10 ⊢
        have hs9 : W2.heap.size + 1 ≤ w9.heap.size := by have := HO9.out.1.size; simpa using this
        have ho9' : ∀ k, (Value.slice a9 (j + 1) c9).ownBlock = some k → (Value.slice ao j co).ownBlock = some k ∨ W2.heap.size + 1 ≤ k := fun k hk => by
          rcases HO9.out.2 with e | ⟨q, e, hq⟩
          · exact .inl (e ▸ hk)
          · rw [hk] at e; cases e; exact .inr (by simpa using hq)
        go_roundg (gk - 1)
        case measure => have := HJ.out; have := HLT.out; omega
        case rel =>
          have hll := HL.out
          refine ⟨j + 1, _, by go_num, by have := HJ.out; have := HLT.out; omega, hz10, ?_, ?_⟩
          · rw [List.take_add_one, HT.out, List.map_append]
            have hm : VRow w9 W0.heap.size (fun b => (b < N ∨ W0.heap.size ≤ b) ∧ b < w9.heap.size ∧ (Value.slice a9 (j + 1) c9).ownBlock ≠ some b) (.slice a9 (j + 1) c9) (List.map (mvT met) (vals.take j) ++ [mvT met t]) := HR9.out.mono (fun b hb => ⟨hb.1, by have := hb.2.1; omega, fun h => by
              rcases ho9' b h with e | e
              · exact hb.2.2 e
              · have := hb.2.1; omega⟩)
            refine (hm.chg hc10 (fun k hk => ?_) (fun b hb => ⟨hb.2.1, ?_⟩)).mono (fun b hb => ⟨hb.1, Nat.lt_of_lt_of_le hb.2.1 hc10.size, hb.2.2⟩)
            · simp only [List.mem_singleton]
              rcases ho9' k hk with e | e
              · have := (HOWN.out k e).1; omega
              · omega
            · simp only [List.mem_singleton]
              have := HGN.out
              rcases hb.1 with h | h <;> omega
          · exact (((HCH.out.trans HC2.out (fun k hk => by cases hk)).alloc _).trans HO9.out.1 (fun k hk => .inr (HOWN.out k (by simpa using hk)).1)).trans hc10 (fun k hk => .inl hk)
      · have hbx := box_a (N := N) HC5.out HV5.out HZ.out HN1.out
        have HBX := Lib.hid hbx
        clear hbx
        generalize ((((w5.setCell _ _).setCell _ _).setCell _ _).setCell _ _) = W2 at HBX ⊢
        have zg := (HBX.out.2.1.block Bg (Nat.lt_of_lt_of_le (lt_of_block HBG1.out) HC1.out.size) (by simp)).trans ((HC1.out.block Bg (lt_of_block HBG1.out) (by simp)).trans HBG1.out)
        have y1 : W2.cell? ⟨Bg, 1, none⟩ = some (.slice ao j co) := by unfold World.cell?; rw [zg]; rfl
        have y2 : ∀ i, W2.frozen? ⟨Bg, i, none⟩ = false := fun i => by simp [World.frozen?, zg]
        obtain ⟨t0, t1, t2, t3, _⟩ := hdr4_cells HBX.out.2.2.1
        have hlw : wr.heap.size ≤ W1.heap.size := HC1.out.size
        have hl0 : W0.heap.size ≤ wr.heap.size := HCH.out.size
        have hl2 : W1.heap.size ≤ W2.heap.size := HBX.out.2.1.size
        have hown : ∀ k, (Value.slice ao j co).ownBlock = some k → W0.heap.size ≤ k ∧ k < wr.heap.size := fun k hk => ⟨HOR.out.own hk, HOR.out.lt hk⟩
        have hN0 := HWK.out.n0
        have hg0 := lt_of_block HBG.out
        have hc2 : Chg [] wr W2 := HC1.out.trans HBX.out.2.1 (fun k hk => by cases hk)
        have hr2 : VRow W2 W0.heap.size (fun b => (b < N ∨ W0.heap.size ≤ b) ∧ b < W2.heap.size ∧ (Value.slice ao j co).ownBlock ≠ some b) (.slice ao j co) ((vals.take j).map (mvT met)) := (VRow.chg HOR.out hc2 (by simp) (fun b hb => ⟨hb.2.1, by simp⟩)).mono (fun b hb => ⟨hb.1, Nat.lt_of_lt_of_le hb.2.1 hc2.size, hb.2.2⟩)
        have hv2 : ValIs W2 (fun b => (b < N ∨ W0.heap.size ≤ b) ∧ b < W2.heap.size ∧ (Value.slice ao j co).ownBlock ≠ some b) (mvT met t) (vval (mvT met t) a5 c5) := HBX.out.2.2.2.mono (fun b hb => ⟨hb.1.imp_right (fun h => by omega), hb.2, fun h => by have := hown b h; rcases hb.1 with h1 | h1 <;> omega⟩)
        have HL := Lib.hid (And.intro hlw (And.intro hl0 (And.intro hl2 (And.intro hN0 hg0))))
        have HOWN := Lib.hid hown
        have HC2 := Lib.hid hc2
        have HR2 := Lib.hid hr2
        have HV2 := Lib.hid hv2
        have HZG := Lib.hid zg
        clear hlw hl0 hl2 hown hN0 hg0 hc2 hr2 hv2 zg
        have ll : ((vals.take j).map (mvT met)).length = j := by rw [List.length_map, List.length_take]; have := HLT.out; omega
        have HLL := Lib.hid ll
        clear ll
        go_wp2_with (at_builtin; refine wpList_appv (w := W2.alloc (.cells #[.int .i64 (mvT met t).kind, .int .i64 (mvT met t).num, .string (mvT met t).text, .slice a5 (mvT met t).kids.length c5] 47)) (N := W0.heap.size) (P := fun b => (b < N ∨ W0.heap.size ≤ b) ∧ b < W2.heap.size ∧ (Value.slice ao j co).ownBlock ≠ some b) (v := .slice ao j co) (l := (vals.take j).map (mvT met)) (t := mvT met t) (p := (a5, c5)) (ad := ⟨W2.heap.size, 0, none⟩) (c := 1) rfl _ _ rfl rfl (HR2.out.chg ((Chg.refl [] W2).alloc _) (by simp) (fun b hb => ⟨hb.2.1, by simp⟩)) rfl (cell_four_newG W2 _ _ _ _ _) (HV2.out.chg ((Chg.refl [] W2).alloc _) (fun b hb => ⟨hb.2.1, by simp⟩)) (by have := HL.out; simp; omega) (by rw [HLL.out]; have := HLT.out; have := HVL.out; omega) (fun b hb => ⟨by have := hb.2.1; simp; omega, hb.2.2⟩) ?_; intro a9 c9 w9 hr9 ho9; rw [HLL.out] at hr9 ho9 ⊢; have hz9 := (ho9.block (by have := lt_of_block HZG.out; simp; omega) (fun h => by have := (HOWN.out Bg h).1; have := HL.out; omega)).trans ((Below.heap_alloc _ _ _ (lt_of_block HZG.out)).trans HZG.out); have yy1 : w9.cell? ⟨Bg, 1, none⟩ = some (.slice ao j co) := (by unfold World.cell?; rw [hz9]; rfl); have yy2 : ∀ i, w9.frozen? ⟨Bg, i, none⟩ = false := (fun i => by simp [World.frozen?, hz9]); have HR9 := Lib.hid hr9; have HO9 := Lib.hid ho9; have HZ9 := Lib.hid hz9; clear hr9 ho9 hz9)
        have hz10 := (heap_setCell_same w9 Bg 1 _ _ (.slice a9 (j + 1) c9) HZ9.out).trans rfl
        have hc10 : Chg [Bg] w9 (w9.setCell ⟨Bg, 1, none⟩ (.slice a9 (j + 1) c9)) := (Chg.refl _ _).setCell (.inl (by simp)) _
        generalize w9.setCell ⟨Bg, 1, none⟩ (.slice a9 (j + 1) c9) = w10 at hz10 hc10 ⊢
        have hs9 : W2.heap.size + 1 ≤ w9.heap.size := by have := HO9.out.1.size; simpa using this
        have ho9' : ∀ k, (Value.slice a9 (j + 1) c9).ownBlock = some k → (Value.slice ao j co).ownBlock = some k ∨ W2.heap.size + 1 ≤ k := fun k hk => by
          rcases HO9.out.2 with e | ⟨q, e, hq⟩
          · exact .inl (e ▸ hk)
          · rw [hk] at e; cases e; exact .inr (by simpa using hq)
        go_roundg (gk - 1)
        case measure => have := HJ.out; have := HLT.out; omega
        case rel =>
          have hll := HL.out
          refine ⟨j + 1, _, by go_num, by have := HJ.out; have := HLT.out; omega, hz10, ?_, ?_⟩
          · rw [List.take_add_one, HT.out, List.map_append]
            have hm : VRow w9 W0.heap.size (fun b => (b < N ∨ W0.heap.size ≤ b) ∧ b < w9.heap.size ∧ (Value.slice a9 (j + 1) c9).ownBlock ≠ some b) (.slice a9 (j + 1) c9) (List.map (mvT met) (vals.take j) ++ [mvT met t]) := HR9.out.mono (fun b hb => ⟨hb.1, by have := hb.2.1; omega, fun h => by
              rcases ho9' b h with e | e
              · exact hb.2.2 e
              · have := hb.2.1; omega⟩)
            refine (hm.chg hc10 (fun k hk => ?_) (fun b hb => ⟨hb.2.1, ?_⟩)).mono (fun b hb => ⟨hb.1, Nat.lt_of_lt_of_le hb.2.1 hc10.size, hb.2.2⟩)
            · simp only [List.mem_singleton]
              rcases ho9' k hk with e | e
              · have := (HOWN.out k e).1; omega
              · omega
            · simp only [List.mem_singleton]
              have := HGN.out
              rcases hb.1 with h | h <;> omega
          · exact (((HCH.out.trans HC2.out (fun k hk => by cases hk)).alloc _).trans HO9.out.1 (fun k hk => .inr (HOWN.out k (by simpa using hk)).1)).trans hc10 (fun k hk => .inl hk)
    · have j1 : ¬ (j : Int) < (vals.length : Int) := by omega
      have ho := HOR.out
      rw [List.take_of_length_le (by omega)] at ho
      have HO := Lib.hid ho
      clear ho
      go_wp2
      exact HGO.out _ _ _ _ _ _ _ _ _ _ _ _ _ _ _ _ _ _ _ _ _ _ _ _ _ HBG1.out HO.out HCH.out
end Go.Proofs.YtenikoecnfbfoaaGreatDoor
/- Layer 8: objects in memory; the library's iterator over them, backward. -/
namespace Go.Proofs.YtenikoecnfbfoaaGreatDoor
open Go.RowKit Go.Shelf Go.Maps
set_option linter.unusedVariables false
set_option linter.unusedSimpArgs false
attribute [local go_sem] Oper.semAt_some
open Gr (findO)

/-- A slice that reads as objects. -/
def ObAt (w : World) (v : Value) (obs : List OB) : Prop :=
  ∃ ao cap, v = .slice ao obs.length cap ∧ obs.length ≤ cap ∧ cap ≤ maxLen ∧ (ao = none → cap = 0) ∧ (∀ b off s, ao = some ⟨b, off, s⟩ → s = none ∧ b < w.heap.size) ∧ ∀ (j : Nat) x, obs[j]? = some x → ∃ b off, ao = some ⟨b, off, none⟩ ∧ ObCells w b off j x
theorem ObAt.below {w w' : World} {v : Value} {obs : List OB} (h : ObAt w v obs) (hb : Below w.heap.size w w') : ObAt w' v obs := by
  obtain ⟨ao, cap, h1, h2, h3, h4, h5, h6⟩ := h
  refine ⟨ao, cap, h1, h2, h3, h4, fun b off s hs => ⟨(h5 b off s hs).1, Nat.lt_of_lt_of_le (h5 b off s hs).2 hb.size⟩, fun j x hj => ?_⟩
  obtain ⟨b, off, e1, c0, c1, c2, c3, c4⟩ := h6 j x hj
  have hbl := (h5 b off none e1).2
  exact ⟨b, off, e1, (hb.cell (p := ⟨b, off + j * 5, none⟩) hbl).trans c0, (hb.cell (p := ⟨b, off + j * 5 + 1, none⟩) hbl).trans c1, (hb.cell (p := ⟨b, off + j * 5 + 2, none⟩) hbl).trans c2, (hb.cell (p := ⟨b, off + j * 5 + 3, none⟩) hbl).trans c3, (hb.cell (p := ⟨b, off + j * 5 + 4, none⟩) hbl).trans c4⟩
/-- One of them, and where it stands. -/
abbrev PO (obs : List OB) := { x : Nat × OB // obs[x.1]? = some x.2 }
def obV (x : OB) : Value := .agg #[.int .i64 x.k, .int .i64 x.n, .string x.s, .slice x.ao x.len x.cap]
def encO (obs : List OB) (x : PO obs) : Array Value := #[.int .i64 (x.1.1 : Int), .agg #[.int .i64 x.1.2.id, .int .i64 x.1.2.k, .int .i64 x.1.2.n, .string x.1.2.s, .slice x.1.2.ao x.1.2.len x.1.2.cap]]
theorem backO_stops (F : Fence) (n : Nat) (h7 : F.fn 44) (hro : F.round = none) (hn : 1 ≤ n) (Bs n₀ : Nat) (sv : Value) (zs : List OB) (hreach : zs.length ≤ 1000000) (w : World) (hBs : Bs < w.heap.size) (hn₀ : n₀ ≤ w.heap.size)
    (hc : w.cell? ⟨Bs, 0, none⟩ = some sv) (hI : ObAt w sv zs) (hsv : ∀ a n c, sv = .slice (some a) n c → a.block < n₀) :
    SeqStopsK F n Tryz.prog 44 #[.pointer (some ⟨Bs, 0, none⟩)] (encO zs) (KpB n₀ Bs) (fun ys => ys.map (·.1.2) = zs.reverse) (fun _ => True) zs.length w := fun l J Jx W hW _ _ hY h0 => by
  have hc' := (hW.cell (p := ⟨Bs, 0, none⟩) hBs).trans hc
  have hI2 := hI.below hW
  obtain ⟨ao, cap, rfl, h1, h2, h3, h4, h5⟩ := hI2
  cases ao with
  | none =>
    have hcp := h3 rfl
    have hz : zs = [] := List.length_eq_zero_iff.1 (by omega)
    subst hz
    subst hcp
    exact (backO1_nil_in F n h7 hro l Bs (fun pre W => ∃ pre' : List (PO []), pre'.map (·.1) = pre ∧ J pre' W) W hc' ⟨[], rfl, h0⟩).mono fun e W' ⟨he, hj⟩ => ⟨he, by
      obtain ⟨pre', hp, hj⟩ := hj
      have : pre' = [] := by simpa using hp
      subst this
      exact .inl ⟨[], rfl, hj⟩⟩
  | some a =>
    obtain ⟨b, off, s⟩ := a
    obtain ⟨rfl, hb⟩ := h4 b off s rfl
    refine (backO1_in F n h7 hro hn l Bs n₀ b off zs.length cap zs rfl hreach (hsv ⟨b, off, none⟩ _ _ rfl) (fun pre W => ∃ pre' : List (PO zs), pre'.map (·.1) = pre ∧ J pre' W) (fun pre W => ∃ pre' : List (PO zs), pre'.map (·.1) = pre ∧ Jx pre' W) (fun pre x W1 hJ hl hx => ?_) W hc' (fun j x hj => ?_) ⟨[], rfl, h0⟩).mono fun e W' ⟨he, hj⟩ => ⟨he, ?_⟩
    · obtain ⟨pre', hp, hJ⟩ := hJ
      refine (hY pre' ⟨x, hx⟩ W1 hJ (by rw [← hp, List.length_map] at hl; exact hl)).mono fun e W' h => ?_
      rcases h with ⟨h1, h2, h3⟩ | ⟨h1, h2⟩
      · exact .inl ⟨h1, ⟨_, by rw [List.map_append, hp]; rfl, h2⟩, h3⟩
      · exact .inr ⟨h1, _, by rw [List.map_append, hp]; rfl, h2⟩
    · obtain ⟨b1, o1, e1, c1⟩ := h5 j x hj
      cases e1
      exact c1
    · rcases hj with ⟨ys, hys, pre', hp, hj⟩ | ⟨pre, _, pre', hp, hj⟩
      · refine .inl ⟨pre', ?_, hj⟩
        rw [← hys, ← hp, List.map_map]
        rfl
      · exact .inr ⟨pre', trivial, hj⟩
/-- Objects, as they lie, read as numbers and values. -/
def ObsIs (w : World) (P : Nat → Prop) (obs : List OB) (objs : List (Int × VT)) : Prop :=
  obs.length = objs.length ∧ ∀ (j : Nat) (x : OB) (o : Int × VT), obs[j]? = some x → objs[j]? = some o → x.id = o.1 ∧ ValIs w P o.2 (obV x) ∧ (Lit.int .i64 x.id).wf = true
theorem ObsIs.below {w w' : World} {P : Nat → Prop} {M : Nat} {obs : List OB} {objs : List (Int × VT)} (h : ObsIs w P obs objs) (hb : Below M w w') (hP : ∀ b, P b → b < M) : ObsIs w' P obs objs :=
  ⟨h.1, fun j x o hx ho => ⟨(h.2 j x o hx ho).1, (h.2 j x o hx ho).2.1.below hb hP, (h.2 j x o hx ho).2.2⟩⟩
/-- What the map gives behind some of them. -/
def allM {obs : List OB} (pre : List (PO obs)) : Int → Option Value := pre.foldl (fun f x j => if j = x.1.2.id then some (obV x.1.2) else f j) (fun _ => none)
theorem allM_snoc {obs : List OB} (pre : List (PO obs)) (x : PO obs) : allM (pre ++ [x]) = fun j => if j = x.1.2.id then some (obV x.1.2) else allM pre j := by
  unfold allM
  rw [List.foldl_append]
  rfl
theorem allM_eq {obs : List OB} : ∀ (pre : List (PO obs)) (f : Int → Option Value) (id : Int), pre.foldl (fun f x j => if j = x.1.2.id then some (obV x.1.2) else f j) f id = match (pre.map (·.1.2)).reverse.find? (fun x => x.id == id) with
    | some x => some (obV x)
    | none => f id
  | [], f, id => rfl
  | x :: pre, f, id => by
    rw [List.foldl_cons, allM_eq pre, List.map_cons, List.reverse_cons, List.find?_append]
    cases h : (pre.map (·.1.2)).reverse.find? (fun x => x.id == id) with
    | some y => rfl
    | none =>
      simp only [Option.none_or]
      by_cases hx : x.1.2.id = id
      · rw [List.find?_cons_of_pos (by simpa using hx), if_pos hx.symm]
      · rw [List.find?_cons_of_neg (by simpa using hx), if_neg (fun e => hx e.symm), List.find?_nil]
theorem find_obs {w : World} {P : Nat → Prop} {id : Int} : ∀ {obs : List OB} {objs : List (Int × VT)}, ObsIs w P obs objs → match findO objs id with
    | some t => ∃ x, obs.find? (fun x => x.id == id) = some x ∧ ValIs w P t (obV x)
    | none => obs.find? (fun x => x.id == id) = none
  | [], [], _ => rfl
  | [], _ :: _, h => by have := h.1; simp at this
  | _ :: _, [], h => by have := h.1; simp at this
  | x :: obs, o :: objs, h => by
    have h0 := h.2 0 x o rfl rfl
    have ih := find_obs (id := id) (obs := obs) (objs := objs) ⟨by have := h.1; simpa using this, fun j y q hy hq => h.2 (j + 1) y q (by simpa using hy) (by simpa using hq)⟩
    unfold findO at ih ⊢
    by_cases hx : x.id = id
    · have e1 : (x.id == id) = true := by simpa using hx
      have e2 : (o.1 == id) = true := by rw [← h0.1]; exact e1
      simp only [List.find?_cons, e1, e2, Option.map_some]
      exact ⟨x, rfl, h0.2.1⟩
    · have e1 : (x.id == id) = false := by simpa using hx
      have e2 : (o.1 == id) = false := by rw [← h0.1]; exact e1
      simp only [List.find?_cons, e1, e2]
      exact ih
/-- Behind all of them, the map gives the first of each number. -/
theorem allM_at {w : World} {P : Nat → Prop} {obs : List OB} {objs : List (Int × VT)} (h : ObsIs w P obs objs) {ys : List (PO obs)} (hy : ys.map (·.1.2) = obs.reverse) : AllAt w P objs (allM ys) := fun id => by
  have hf := find_obs (id := id) h
  have he := allM_eq ys (fun _ => none) id
  rw [hy, List.reverse_reverse] at he
  cases ho : findO objs id with
  | some t =>
    rw [ho] at hf
    obtain ⟨x, hx, hv⟩ := hf
    rw [hx] at he
    obtain ⟨ao, cap, e⟩ := hv.form
    exact ⟨ao, cap, by rw [← e]; exact he, by rw [← e]; exact hv⟩
  | none =>
    rw [ho] at hf
    rw [hf] at he
    exact he
end Go.Proofs.YtenikoecnfbfoaaGreatDoor
/- Layer 8: the program's Roots. -/
namespace Go.Proofs.YtenikoecnfbfoaaGreatDoor
open Go.RowKit
set_option linter.unusedVariables false
set_option linter.unusedSimpArgs false
open Gr (RT gather rootOf rootsT dirT)
theorem text_bytes (s : ByteArray) : bytes s.data.toList = s := by
  cases s
  simp [bytes]
theorem infoRtG : (Tryz.prog.info? 82).map (fun i => (i.zero, i.size, i.bytes)) = some (some (.agg #[.string ⟨#[]⟩, .string ⟨#[]⟩, .int .i64 0]), 3, 40) := by kernel_rfl
/-- Two values, held against each other in a later world. -/
theorem same_two {f : FuncId} (hs : ∀ (a b : VT) (va vb : Value) (W : World) (P : Nat → Prop), ValIs W P a va → ValIs W P b vb → (∀ b, P b → b < W.heap.size) → Calls Tryz.prog f #[va, vb] W fun e w' => e = .returned (.bool (a.same b)) ∧ Below W.heap.size W w')
    {w wc w5 : World} {P : Nat → Prop} {a b : VT} {va vb : Value} (h1 : ValIs w P a va) (hP : ∀ b, P b → b < w.heap.size) (hb : Below w.heap.size w wc) (hb5 : Below wc.heap.size wc w5) (h2 : ValIs w5 (fun b => wc.heap.size ≤ b ∧ b < w5.heap.size) b vb) (o : Obj) :
    Calls Tryz.prog f #[va, vb] (w5.alloc o) fun e w' => e = .returned (.bool (a.same b)) ∧ Below (w5.alloc o).heap.size (w5.alloc o) w' := by
  have hb6 := (hb.trans (hb5.mono hb.size)).alloc (Nat.le_trans hb.size hb5.size) o
  refine hs a b va vb _ (fun b => b < (w5.alloc o).heap.size) ((h1.below hb6 hP).mono (fun b hb => Nat.lt_of_lt_of_le (hP b hb) hb6.size)) ((h2.below ((Below.refl w5.heap.size w5).alloc (Nat.le_refl _) o) (fun b hb => hb.2)).mono (fun b hb => by simp; omega)) (fun b hb => hb)
theorem same_hs : ∀ (a b : VT) (va vb : Value) (W : World) (P : Nat → Prop), ValIs W P a va → ValIs W P b vb → (∀ b, P b → b < W.heap.size) → Calls Tryz.prog 42 #[va, vb] W fun e w' => e = .returned (.bool (a.same b)) ∧ Below W.heap.size W w' := fun a b va vb W P => same_walk a.sz a b va vb W P (Nat.le_refl _)
def RsEnd (T : TypeId) (w : World) (v : VT) (vc : Array Value) (s4 : Value) (wr : World) : Prop :=
  ∃ a4 c4 out, s4 = .slice a4 out.length c4 ∧ gather 102 v [] = some out ∧ out.length ≤ 101 ∧ RtRow T wr (w.heap.size + 2) (.slice a4 out.length c4) out ∧ wr.heap[w.heap.size]? = some (.cells vc 47 (0, 0)) ∧ Below w.heap.size w wr
set_option maxRecDepth 100000 in
set_option maxHeartbeats 8000000 in
theorem roots_any (w : World) (P : Nat → Prop) (v : VT) (vv : Value) (hv : ValIs w P v vv) (hP : ∀ b, P b → b < w.heap.size) (hg : ∀ out, gather 102 v [] = some out → ∀ r ∈ out, Gd r)
    (hS : ∀ (l : List RT) (s : Value) (W : World), RtAt W s l → l.length ≤ 1000000 → (∀ r ∈ l, Gd r) → Calls Tryz.prog 26 #[s] W (SrtEnd W l)) : Calls Tryz.prog 21 #[vv] w (RootsEnd 82 w (rootsT v)) := by
  have HV := Lib.hid hv
  have HP := Lib.hid hP
  have HG := Lib.hid hg
  have HDIR := Lib.hid (fun (l : List RT) (s : Value) (W : World) (h : RtAt W s l) (hl : l.length ≤ 1000000) (hd : ∀ r ∈ l, Gd r) => dir_any' W s l h hl hd (fun W2 h2 => hS l s W2 (h.below h2) hl hd))
  clear hS
  obtain ⟨k0, n0, s0, l0⟩ := v
  have hv0 := hv
  unfold ValIs at hv0
  obtain ⟨ao0, cap0, rfl, _⟩ := hv0
  clear hg hv hP
  go_enter Tryz.func21, Tryz.ntmps21
  go_upto_block 0 with (fail)
  have h0 : RsI 82 w P (.node k0 n0 s0 l0) #[.int .i64 k0, .int .i64 n0, .string s0, .slice ao0 l0.length cap0] 102 (.slice none 0 0) ((w.alloc (.cells #[.int .i64 k0, .int .i64 n0, .string s0, .slice ao0 l0.length cap0] 47)).alloc (.cells #[.int .i64 k0, .int .i64 n0, .string s0, .slice ao0 l0.length cap0] 47)) := by
    have hb : Below w.heap.size w ((w.alloc (.cells #[.int .i64 k0, .int .i64 n0, .string s0, .slice ao0 l0.length cap0] 47)).alloc (.cells #[.int .i64 k0, .int .i64 n0, .string s0, .slice ao0 l0.length cap0] 47)) := ((Below.refl _ _).alloc (Nat.le_refl _) _).alloc (by simp) _
    have h2 := World.alloc_heap_new (w.alloc (.cells #[.int .i64 k0, .int .i64 n0, .string s0, .slice ao0 l0.length cap0] 47)) (.cells #[.int .i64 k0, .int .i64 n0, .string s0, .slice ao0 l0.length cap0] 47)
    rw [World.size_alloc] at h2
    exact ⟨k0, n0, s0, l0, ao0, cap0, [], by omega, rfl, RtRow.nil _ _ _, (Below.heap_alloc _ _ _ (by simp)).trans (World.alloc_heap_new _ _), h2, HV.out.below hb HP.out, rfl, hb⟩
  generalize ((w.alloc (.cells #[.int .i64 k0, .int .i64 n0, .string s0, .slice ao0 l0.length cap0] 47)).alloc (.cells #[.int .i64 k0, .int .i64 n0, .string s0, .slice ao0 l0.length cap0] 47)) = W0 at h0 ⊢
  have H0 := Lib.hid h0
  clear h0
  generalize hvc : (#[.int .i64 k0, .int .i64 n0, .string s0, .slice ao0 l0.length cap0] : Array Value) = vc at H0
  have HVC := Lib.hid hvc
  clear hvc
  go_cut [4] (fun s4 wc => RsEnd 82 w (.node k0 n0 s0 l0) vc s4 wc)
  case first =>
    go_wp2
    go_loopg [4] 102 (fun gk s4 wr => RsI 82 w P (.node k0 n0 s0 l0) vc gk s4 wr)
    case atStart => exact H0.out
    case round =>
      obtain ⟨k, n, s, l, ao, cap, out, hgk, hgl, hrow, hbH, hbX, hvi, hga, hbw⟩ := hrel
      obtain ⟨f, rfl⟩ : ∃ f, gk = f + 1 := ⟨gk - 1, by omega⟩
      have HROW := Lib.hid hrow
      have HBH := Lib.hid hbH
      have HBX := Lib.hid hbX
      have HVI := Lib.hid hvi
      have HGA := Lib.hid hga
      have HBW := Lib.hid hbw
      have HGL := Lib.hid hgl
      obtain ⟨a4, c4, e4, _⟩ := hrow.at_
      subst e4
      obtain ⟨q0, q1, q2, q3, q4⟩ := hdr4_cells hbX
      have ol : (out.length : Int) ≤ 101 := by omega
      clear hgk hgl hrow hbH hbX hvi hga hbw
      by_cases hst : k = 3 ∧ n = 1 ∧ l.length = 2 ∧ out.length ≤ 100
      · obtain ⟨rfl, rfl, hl2, ho⟩ := hst
        obtain ⟨t0, y0, rfl⟩ := kids2 hl2
        clear hl2
        have o1 : (out.length : Int) ≤ 100 := by omega
        have hvi := HVI.out
        unfold ValIs at hvi
        obtain ⟨ao', cap', ev, g1, g2, _, _, _, g3, hk⟩ := hvi
        have ev := congrArg (fun v => match v with | Value.agg a => a.toList | _ => []) ev
        simp only [List.cons.injEq, Value.slice.injEq, List.length_cons, List.length_nil] at ev
        obtain ⟨-, -, -, ⟨rfl, -, rfl⟩, -⟩ := ev
        obtain ⟨b, off, -, -, -, -, rfl, -⟩ := hk.get (i := 0) rfl
        obtain ⟨hPb, ta, tc, t0', t1', t2', t3', htv⟩ := hk.cells (i := 0) rfl
        obtain ⟨-, ya, yc, y0', y1', y2', y3', hyv⟩ := hk.cells (i := 1) rfl
        simp only [Nat.add_zero, Nat.zero_add, Nat.zero_mul, Nat.one_mul] at t0' t1' t2' t3' y0' y1' y2' y3'
        obtain ⟨kt, nt, st, lt⟩ := t0
        obtain ⟨ky, ny, sy, ly⟩ := y0
        unfold vval at htv hyv
        simp only [VT.kind, VT.num, VT.text, VT.kids] at t0' t1' t2' t3' y0' y1' y2' y3' htv hyv
        have HTV := Lib.hid htv
        have HYV := Lib.hid hyv
        have HPB := Lib.hid (HP.out b hPb)
        have HHO := Lib.hid ho
        clear htv hyv hk g1 g2 g3 hPb ho
        by_cases h3 : lt.length = 3
        · obtain ⟨xa, xb, xc, rfl⟩ := kids3 h3
          clear h3
          have hvt := HTV.out
          unfold ValIs at hvt
          obtain ⟨ao', cap', ev, g1, g2, _, _, _, g3, hk⟩ := hvt
          have ev := congrArg (fun v => match v with | Value.agg a => a.toList | _ => []) ev
          simp only [List.cons.injEq, Value.slice.injEq, List.length_cons, List.length_nil] at ev
          obtain ⟨-, -, -, ⟨rfl, -, rfl⟩, -⟩ := ev
          obtain ⟨bt, offt, -, -, -, -, rfl, -⟩ := hk.get (i := 0) rfl
          obtain ⟨hPt, _, _, _, _, a2, _, _⟩ := hk.cells (i := 0) rfl
          obtain ⟨_, _, _, _, _, b2, _, _⟩ := hk.cells (i := 1) rfl
          obtain ⟨_, _, _, _, c1, _, _, _⟩ := hk.cells (i := 2) rfl
          simp only [Nat.add_zero, Nat.zero_add, Nat.zero_mul, Nat.one_mul, Nat.reduceAdd, Nat.reduceMul] at a2 b2 c1
          have HPT := Lib.hid (HP.out bt hPt)
          have HGN := Lib.hid (HGA.out.trans (Gr.gather_go HHO.out))
          generalize hR : rootOf xa xb xc = r at HGN
          have hr1 : bytes r.name = xa.text := by subst hR; exact text_bytes _
          have hr2 : bytes r.typ = xb.text := by subst hR; exact text_bytes _
          have hr3 : r.id = xc.num := by subst hR; rfl
          rw [← hr1] at a2
          rw [← hr2] at b2
          rw [← hr3] at c1
          clear hR hr1 hr2 hr3 hk g1 g2 g3 hPt
          have hS3 : ∀ W, Below (w.heap.size + 2) wr W → W.cell? ⟨bt, offt + 2, none⟩ = some (.string (bytes r.name)) ∧ W.cell? ⟨bt, offt + 4 + 2, none⟩ = some (.string (bytes r.typ)) ∧ W.cell? ⟨bt, offt + 8 + 1, none⟩ = some (.int .i64 r.id) := fun W hW =>
            ⟨(hW.cell (p := ⟨bt, offt + 2, none⟩) (Nat.lt_of_lt_of_le HPT.out (by omega))).trans a2, (hW.cell (p := ⟨bt, offt + 4 + 2, none⟩) (Nat.lt_of_lt_of_le HPT.out (by omega))).trans b2, (hW.cell (p := ⟨bt, offt + 8 + 1, none⟩) (Nat.lt_of_lt_of_le HPT.out (by omega))).trans c1⟩
          have HS3 := Lib.hid hS3
          clear hS3
          have hsz : w.heap.size + 2 ≤ wr.heap.size := by have := lt_of_block HBX.out; omega
          have HSZ := Lib.hid hsz
          clear hsz
          go_wp2
          go_region_held3 (fun w' => w'.cell? ⟨bt, offt + 2, none⟩ = some (.string (bytes r.name)) ∧ w'.cell? ⟨bt, offt + 4 + 2, none⟩ = some (.string (bytes r.typ)) ∧ w'.cell? ⟨bt, offt + 8 + 1, none⟩ = some (.int .i64 r.id))
            (first | exact HS3.out _ (Below.refl _ _) | exact HS3.out _ (Below.refl _ _).drew | exact HS3.out _ ((Below.refl _ _).drew.alloc HSZ.out _) | exact HS3.out _ HB9.out)
            (first
              | (refine step_root (w := wr.drew.alloc (.cells #[.string (bytes r.name), .string (bytes r.typ), .int .i64 r.id] 82)) (N := w.heap.size + 2) (l := out) (r := r) (v := .slice a4 out.length c4) (ad := ⟨wr.heap.size, 0, none⟩) (c := 1) Tryz.underlying28 infoRtG rfl _ _ rfl rfl ((HROW.out.below (Below.refl _ _).drew).below ((Below.refl _ _).alloc (Nat.le_refl _) _)) rfl (cell_three_new wr.drew _ _ _ _) (by have := HSZ.out; simp; omega) (by omega) ?_; intro a9 c9 w9 hr9 hb9 hc9; have HR9 := Lib.hid hr9; have HB9 := Lib.hid (((Below.refl _ _).drew.alloc HSZ.out _).trans hb9); clear hr9 hb9 hc9))
          have hb9 := HB9.out
          have hbX9 := (hb9.block (w.heap.size + 1) (by omega)).trans HBX.out
          clear q0 q1 q2 q3 q4 a2 b2 c1
          obtain ⟨q0, q1, q2, q3, q4⟩ := hdr4_cells hbX9
          replace y0' := (hb9.cell (p := ⟨b, off + 4, none⟩) (Nat.lt_of_lt_of_le HPB.out (by omega))).trans y0'
          replace y1' := (hb9.cell (p := ⟨b, off + 4 + 1, none⟩) (Nat.lt_of_lt_of_le HPB.out (by omega))).trans y1'
          replace y2' := (hb9.cell (p := ⟨b, off + 4 + 2, none⟩) (Nat.lt_of_lt_of_le HPB.out (by omega))).trans y2'
          replace y3' := (hb9.cell (p := ⟨b, off + 4 + 3, none⟩) (Nat.lt_of_lt_of_le HPB.out (by omega))).trans y3'
          have HBX9 := Lib.hid hbX9
          clear hb9 hbX9 t0' t1' t2' t3'
          go_wp2
          obtain ⟨z1, z2⟩ := four_ret (y0 := .int .i64 ky) (y1 := .int .i64 ny) (y2 := .string sy) (y3 := .slice ya ly.length yc) HBX9.out
          generalize ((((World.setCell _ _ _).setCell _ _).setCell _ _).setCell _ _) = wz at z1 z2 ⊢
          have HZ1 := Lib.hid z1
          have HZ2 := Lib.hid z2
          clear z1 z2 q0 q1 q2 q3 q4 y0' y1' y2' y3'
          go_roundg f
          case measure => omega
          case rel =>
            have g1 := HGL.out
            have g2 := HHO.out
            exact ⟨ky, ny, sy, ly, ya, yc, out ++ [r], by omega, by rw [List.length_append, List.length_singleton]; omega, HR9.out.chg HZ2.out (fun k hk e => by have := HR9.out.2 k hk; simp at e; omega), (HZ2.out.block _ (Nat.lt_of_lt_of_le (by have := HSZ.out; omega) HB9.out.size) (by simp)).trans ((HB9.out.block _ (by omega)).trans HBH.out), HZ1.out,
              (HYV.out.below HB9.out (fun b hb => Nat.lt_of_lt_of_le (HP.out b hb) (by omega))).chg HZ2.out (fun b hb => ⟨by have := HP.out b hb; have := HB9.out.size; have := HSZ.out; omega, by have := HP.out b hb; simp; omega⟩), HGN.out,
              (HBW.out.trans (HB9.out.mono (by omega))).trans (HZ2.out.below (Nat.le_trans HBW.out.size HB9.out.size) (by simp))⟩
        · have h3i : ¬ (lt.length : Int) = 3 := by omega
          have h3b : ((lt.length : Int) == 3) = false := by simpa using h3i
          have h3c : ((lt.length : Int) != 3) = true := by simpa using h3i
          have HNO : Hid (rootsT (.node k0 n0 s0 l0) = none) := by show _ = _; unfold rootsT; rw [HGA.out, Gr.gather_bad HHO.out h3]
          clear h3 h3i
          go_wp2
          go_ret2
          refine ⟨.slice none 0 0, ?_, fun o ho => ?_, fun hn => ?_, ?_⟩
          · rw [HNO.out]; rfl
          · rw [HNO.out] at ho; cases ho
          · rfl
          · exact HBW.out
      · have HEND := Lib.hid (HGA.out.trans (Gr.gather_stop hst))
        have HFIN : Hid (RsEnd 82 w (.node k0 n0 s0 l0) vc (.slice a4 out.length c4) wr) := ⟨a4, c4, out, rfl, HEND.out, by omega, HROW.out, HBH.out, HBW.out⟩
        have HF2 : Hid (∀ nq, RsEnd 82 w (.node k0 n0 s0 l0) vc (.slice a4 out.length c4) (wr.drewN nq)) := fun nq => ⟨a4, c4, out, rfl, HEND.out, by omega, HROW.out.below (below_drewN (Below.refl _ _) _), HBH.out, below_drewN HBW.out _⟩
        have st : ¬ k = 3 ∨ (k = 3 ∧ ¬ n = 1) ∨ (k = 3 ∧ n = 1 ∧ ¬ l.length = 2) ∨ (k = 3 ∧ n = 1 ∧ l.length = 2 ∧ ¬ out.length ≤ 100) := by omega
        clear hst HEND HGA HVI
        rcases st with h1 | ⟨rfl, h1⟩ | ⟨rfl, rfl, h1⟩ | ⟨rfl, rfl, h2, h1⟩
        · have e1 : (k == 3) = false := by simpa using h1
          clear h1
          go_wp2
          all_goals (go_meet; exact HFIN.out)
        · have e1 : (n == 1) = false := by simpa using h1
          clear h1
          go_wp2
          all_goals (go_meet; exact HFIN.out)
        · have h1i : ¬ (l.length : Int) = 2 := by omega
          have e1 : ((l.length : Int) == 2) = false := by simpa using h1i
          clear h1 h1i
          go_wp2
          all_goals (go_meet; exact HFIN.out)
        · have h2i : (l.length : Int) = 2 := by omega
          have h1i : ¬ (out.length : Int) ≤ 100 := by omega
          have e2 : ((l.length : Int) == 2) = true := by simpa using h2i
          clear h1 h2 h2i
          go_wp2
          all_goals (go_meet; exact HFIN.out)
  case rest =>
    obtain ⟨a4, c4, out, rfl, hga, hol, hrow, hbH, hbw⟩ := hcut
    have HD := Lib.hid (HDIR.out out _ wc hrow.at_ (by omega) (HG.out out hga))
    have HGA := Lib.hid hga
    have HROW := Lib.hid hrow
    have HBW := Lib.hid hbw
    have hx := HVC.out
    subst hx
    have HBH := Lib.hid hbH
    clear HDIR HG hga hrow hbH hbw HVC H0
    obtain ⟨er, her⟩ : ∃ er, (dirT out).2 = er := ⟨_, rfl⟩
    unfold DirEnd at HD
    rw [her] at HD
    have HER := Lib.hid her
    clear her
    by_cases h0 : er = 0
    · subst h0
      cases hsm : (VT.node k0 n0 s0 l0).same (dirT out).1
      all_goals
        have HSM := Lib.hid hsm
        clear hsm
        go_wp2_with (first
          | (go_at_call 19; refine HD.out.mono ?_; rintro e w5 ⟨vd, rfl, hvd, hb5⟩; obtain ⟨ad, cd, hvd2⟩ := hvd.form; subst hvd2; have zH := (hb5.block w.heap.size (lt_of_block HBH.out)).trans HBH.out; have pz := fun o => later_box zH o; have HVD := Lib.hid hvd; have HB5 := Lib.hid hb5; clear hvd hb5 zH; unfold vval at HVD ⊢; generalize hvk : (dirT out).1.kind = dk at *; generalize hvn : (dirT out).1.num = dn at *; generalize hvt : (dirT out).1.text = dt at *; generalize hvl : (dirT out).1.kids.length = dl at *; clear hvk hvn hvt hvl)
          | (go_at_call 42; refine (same_two same_hs HV.out HP.out HBW.out HB5.out HVD.out _).mono ?_; rw [HSM.out]; rintro e w7 ⟨rfl, hb7⟩; have HB7 := Lib.hid hb7; clear hb7))
      · have HNO : Hid (rootsT (.node k0 n0 s0 l0) = none) := by show _ = _; unfold rootsT; rw [HGA.out]; simp only; rw [if_neg (fun h => by rw [HSM.out] at h; cases h.2)]
        go_ret2
        refine ⟨.slice none 0 0, ?_, fun o ho => ?_, fun hn => ?_, ?_⟩
        · rw [HNO.out]; rfl
        · rw [HNO.out] at ho; cases ho
        · rfl
        · exact ((HBW.out.trans (HB5.out.mono HBW.out.size)).alloc (Nat.le_trans HBW.out.size HB5.out.size) _).trans (HB7.out.mono (by have := HBW.out.size; have := HB5.out.size; simp; omega))
      · have HYES : Hid (rootsT (.node k0 n0 s0 l0) = some out) := by show _ = _; unfold rootsT; rw [HGA.out]; simp only; rw [if_pos ⟨HER.out, HSM.out⟩]
        go_ret2
        have hb6 : Below wc.heap.size wc w7 := (HB5.out.alloc HB5.out.size _).trans (HB7.out.mono (by have := HB5.out.size; simp; omega))
        refine ⟨.slice a4 out.length c4, ?_, fun o ho => ?_, fun hn => ?_, ?_⟩
        · rw [HYES.out]; rfl
        · rw [HYES.out] at ho; cases ho; exact (HROW.out.below hb6).mono (by omega)
        · rw [HYES.out] at hn; cases hn
        · exact HBW.out.trans (hb6.mono HBW.out.size)
    · have k1 : (er == 0) = false := by simpa using h0
      have k2 : (er != 0) = true := by simpa using h0
      have HNO : Hid (rootsT (.node k0 n0 s0 l0) = none) := by show _ = _; unfold rootsT; rw [HGA.out]; simp only; rw [if_neg (fun h => h0 (HER.out ▸ h.1))]
      clear h0
      go_wp2_with (go_at_call 19; refine HD.out.mono ?_; rintro e w5 ⟨vd, rfl, hvd, hb5⟩; obtain ⟨ad, cd, hvd2⟩ := hvd.form; subst hvd2; have HVD := Lib.hid hvd; have HB5 := Lib.hid hb5; clear hvd hb5; unfold vval)
      go_ret2
      refine ⟨.slice none 0 0, ?_, fun o ho => ?_, fun hn => ?_, ?_⟩
      · rw [HNO.out]; rfl
      · rw [HNO.out] at ho; cases ho
      · rfl
      · exact (HBW.out.trans (HB5.out.mono HBW.out.size)).alloc (Nat.le_trans HBW.out.size HB5.out.size) _
end Go.Proofs.YtenikoecnfbfoaaGreatDoor
