/- Texts of the proof, in build order: GrMk8, GrObj, GrRoots, GrS6, GrBfs, GrOcs. -/
import Derived.Test.YtenikoecnfbfoaaDoorB23
import Derived.Test.YtenikoecnfbfoaaDoorB18
import Derived.Deep.RegionHeld3
import Derived.Test.YtenikoecnfbfoaaDoorB02
/- Layer 8: Make's loop over the values, over letters. -/
namespace Go.Proofs.YtenikoecnfbfoaaDoor
open Go.RowKit Go.Maps
set_option linter.unusedVariables false
set_option linter.unusedSimpArgs false
open Gr (RT meetT pairs numOf)
noncomputable def mkB8 : Code := ((Tryd.f4.body.bind (blkOf 8)).getD .skip)
theorem first_eqG : ∀ zs : List PW, firstOf zs = firstP (zs.map (·.1))
  | [] => by funext n; rfl
  | x :: zs => by
    funext n
    have ih := congrFun (first_eqG zs) n
    unfold firstOf at ih ⊢
    rw [List.reverse_cons, asg_snoc, List.map_cons, firstP]
    unfold upd
    by_cases h : x.1.1 = n
    · rw [if_pos h.symm, if_pos h]
    · rw [if_neg (fun e => h e.symm), if_neg h]; exact ih
theorem pairsF_wf : ∀ (l : List Int) (k : Nat), (∀ id ∈ l, (Lit.int .i64 id).wf = true) → k + l.length ≤ 1000000 → ((Gr.pairsF k l).map fun p => pw p.1 p.2).map (·.1) = Gr.pairsF k l
  | [], _, _, _ => rfl
  | x :: l, k, h, hk => by
    rw [List.length_cons] at hk
    rw [Gr.pairsF, List.map_cons, List.map_cons, pairsF_wf l (k + 1) (fun y hy => h y (List.mem_cons_of_mem _ hy)) (by omega), pw_val (h x (List.mem_cons_self ..)) (WalkArith.wf_i64 (by omega))]
theorem first_pws {met : List Int} (h : ∀ id ∈ met, (Lit.int .i64 id).wf = true) (hl : met.length ≤ 500000) : firstOf (pws met) = firstP (pairs met) := by
  rw [first_eqG]
  unfold pws pairs
  rw [pairsF_wf met 1 h (by omega)]
theorem VRow.get {w : World} {N n cap : Nat} {P : Nat → Prop} {ao : Option Addr} {l : List VT} (h : VRow w N P (.slice ao n cap) l) {i : Nat} {t : VT} (hi : l[i]? = some t) : ∃ b a c, ao = some ⟨b, 0, none⟩ ∧ b < w.heap.size ∧ N ≤ b ∧
    w.cell? ⟨b, i * 4, none⟩ = some (.int .i64 t.kind) ∧ w.cell? ⟨b, i * 4 + 1, none⟩ = some (.int .i64 t.num) ∧ w.cell? ⟨b, i * 4 + 2, none⟩ = some (.string t.text) ∧ w.cell? ⟨b, i * 4 + 3, none⟩ = some (.slice a t.kids.length c) ∧ ValIs w P t (vval t a c) := by
  obtain ⟨ps, h1, h2, h3, h4⟩ := h
  have hil := (List.getElem?_eq_some_iff.1 hi).1
  obtain ⟨p, hp⟩ : ∃ p, ps[i]? = some p := ⟨_, List.getElem?_eq_getElem (by omega)⟩
  obtain ⟨ao', cap', e, hle, hm, hn, hs⟩ := h2.form
  cases e
  cases ao with
  | none => have := (hn rfl).1; omega
  | some a =>
    obtain ⟨g, rfl, hg, hgb⟩ := hs a rfl
    have hlen := kcells_length h1
    have c : ∀ r, r < 4 → w.cell? ⟨g, i * 4 + r, none⟩ = (kcell t p)[r]? := fun r hr => by
      rw [← kcells_get hi hp hr]
      exact h2.cellAt _ (by rw [hlen]; omega)
    exact ⟨g, p.1, p.2, rfl, hg, h3 g hgb, c 0 (by omega), c 1 (by omega), c 2 (by omega), c 3 (by omega), h4 i t p hi hp⟩
/-- The value that is moved. -/
def mvT (met : List Int) (v : VT) : VT := (v.move (firstP (pairs met))).getD zeroT
/-- The graph's values under way: what they name lies below N, or is new, and not in the row itself. -/
def ORow (w : World) (N B : Nat) (v : Value) (l : List VT) : Prop := VRow w B (fun b => (b < N ∨ B ≤ b) ∧ b < w.heap.size ∧ v.ownBlock ≠ some b) v l
def Mk8R (W0 : World) (N Bg : Nat) (rows : Value) (met : List Int) (vals : List VT) (gk : Nat) (s129 : Value) (wr : World) : Prop :=
  ∃ (j : Nat) (og : Value), s129 = .int .i64 (j : Int) ∧ j + gk = vals.length ∧ wr.heap[Bg]? = some (.cells #[rows, og] 31 (0, 0)) ∧ ORow wr N W0.heap.size og ((vals.take j).map (mvT met)) ∧ Chg [Bg] W0 wr
/-- Behind the region that moves one: its box. -/
def Box8 (N : Nat) (W1 W : World) (q : Nat) (t : VT) (ao : Option Addr) (cap : Nat) : Prop :=
  W1.heap.size ≤ q ∧ Chg [] W1 W ∧ W.heap[q]? = some (.cells #[.int .i64 t.kind, .int .i64 t.num, .string t.text, .slice ao t.kids.length cap] 26 (0, 0)) ∧ ValIs W (fun b => (b < N ∨ W1.heap.size ≤ b) ∧ b < W.heap.size) t (vval t ao cap)
theorem box_b {N : Nat} {W1 w5 : World} {t : VT} {a5 : Option Addr} {c5 : Nat} (hc : Chg [] W1 w5) (hv : ValIs w5 (fun b => (b < N ∨ W1.drew.heap.size ≤ b) ∧ b < w5.heap.size) t (.agg #[.int .i64 t.kind, .int .i64 t.num, .string t.text, .slice a5 t.kids.length c5])) :
    Box8 N W1 (w5.alloc (.cells #[.int .i64 t.kind, .int .i64 t.num, .string t.text, .slice a5 t.kids.length c5] 26)) w5.heap.size t a5 c5 :=
  ⟨hc.size, hc.alloc _, World.alloc_heap_new _ _, (hv.chg ((Chg.refl [] w5).alloc _) (fun b hb => ⟨hb.2, by simp⟩)).mono (fun b hb => ⟨hb.1, by simp; have := hb.2; omega⟩)⟩
theorem box_a {N : Nat} {W1 w5 : World} {t : VT} {a5 : Option Addr} {c5 : Nat} {x0 x1 x2 x3 : Value} {o : Obj} (hc : Chg [] W1 w5) (hv : ValIs w5 (fun b => (b < N ∨ (W1.alloc o).drew.heap.size ≤ b) ∧ b < w5.heap.size) t (.agg #[.int .i64 t.kind, .int .i64 t.num, .string t.text, .slice a5 t.kids.length c5]))
    (hz : w5.heap[W1.heap.size]? = some (.cells #[x0, x1, x2, x3] 26 (0, 0))) (hN : N ≤ W1.heap.size) :
    Box8 N W1 ((((w5.setCell ⟨W1.heap.size, 0, none⟩ (.int .i64 t.kind)).setCell ⟨W1.heap.size, 1, none⟩ (.int .i64 t.num)).setCell ⟨W1.heap.size, 2, none⟩ (.string t.text)).setCell ⟨W1.heap.size, 3, none⟩ (.slice a5 t.kids.length c5)) W1.heap.size t a5 c5 := by
  have hcc := four_stores (p := W1.heap.size) (Chg.refl [W1.heap.size] w5) (.inl (by simp)) (.int .i64 t.kind) (.int .i64 t.num) (.string t.text) (.slice a5 t.kids.length c5)
  refine ⟨Nat.le_refl _, four_stores hc (.inr (Nat.le_refl _)) _ _ _ _, four_stored hz, (hv.chg hcc (fun b hb => ⟨hb.2, ?_⟩)).mono (fun b hb => ⟨hb.1.imp_right (fun h => ?_), Nat.lt_of_lt_of_le hb.2 hcc.size⟩)⟩
  · simp only [List.mem_singleton]
    rcases hb.1 with h | h
    · omega
    · have h : W1.heap.size + 1 ≤ b := by simpa using h
      omega
  · have h : W1.heap.size + 1 ≤ b := by simpa using h
    omega
set_option maxRecDepth 100000 in
set_option maxHeartbeats 8000000 in
theorem mk8 {K : Exit → Act → World → Prop} {ds : List Deferred} {W0 : World} {N Bw Ba Bm Bp Bg cv : Nat} {sw sl rows : Value} {met : List Int} {av : Option Addr} {vals : List VT} {u0 u1 u2 u3 u4 u5 u6 u7 u9 u10 u12 u13 u14 u15 u16 u17 u18 u19 u20 u21 u22 u23 u24 u25 u26 u27 u28 u29 u30 u31 u32 u33 u34 u35 u36 u37 u38 u39 u40 u41 u42 u43 u44 u45 u46 u47 u48 u49 u50 u51 u52 u53 u54 u55 u56 u57 u58 u59 u60 u61 u62 u63 u64 u65 u66 u67 u68 u69 u70 u71 u72 u73 u74 u75 u76 u77 u78 u79 u80 u81 u82 u83 u84 u85 u86 u87 u88 u89 u90 u91 u92 u93 u94 u95 u96 u97 u98 u99 u100 u101 u102 u103 u104 u105 u106 u107 u108 u109 u110 u111 u112 u113 u114 u115 u116 u117 u118 u119 u120 u121 u122 u123 u124 u125 u126 u130 u131 u132 u133 u134 u135 u136 u137 u138 u139 u140 u141 u142 u143 u144 u145 u146 u147 u148 u149 : Value}
    (hwk : WkAt W0 N Bw Ba Bm sw sl met) (hml : met.length ≤ 500000) (hbp : W0.heap[Bp]? = some (.cells #[.pointer (some ⟨Bw, 0, none⟩)] 42 (0, 0))) (hbg : W0.heap[Bg]? = some (.cells #[rows, .slice none 0 0] 31 (0, 0)))
    {M : Nat} (hvr : VRow W0 M (fun b => b < N) (.slice av vals.length cv) vals) (hx1 : Bg ∉ wkF Bw Bm sw sl) (hx2 : Bg ≠ Bp) (hx3 : ∀ k, (Value.slice av vals.length cv).ownBlock = some k → k ≠ Bg) (hgN : N ≤ Bg) (hvl : vals.length ≤ 100) (hsz : ∀ v ∈ vals, v.sz ≤ 1000)
    (hgo : ∀ (v21 v22 v23 v129 v130 v131 v132 v133 v134 v135 v136 v137 v138 v139 v140 v141 v142 v143 v144 v145 v146 v147 v148 : Value) (W : World) (og : Value), W.heap[Bg]? = some (.cells #[rows, og] 31 (0, 0)) → ORow W N W0.heap.size og (vals.map (mvT met)) → Chg [Bg] W0 W → K .normal { tmps := #[u0, u1, u2, u3, u4, u5, u6, u7, .pointer (some ⟨Bp, 0, none⟩), u9, u10, .pointer (some ⟨Bg, 0, none⟩), u12, u13, u14, u15, u16, u17, u18, u19, u20, v21, v22, v23, u24, u25, u26, u27, u28, u29, u30, u31, u32, u33, u34, u35, u36, u37, u38, u39, u40, u41, u42, u43, u44, u45, u46, u47, u48, u49, u50, u51, u52, u53, u54, u55, u56, u57, u58, u59, u60, u61, u62, u63, u64, u65, u66, u67, u68, u69, u70, u71, u72, u73, u74, u75, u76, u77, u78, u79, u80, u81, u82, u83, u84, u85, u86, u87, u88, u89, u90, u91, u92, u93, u94, u95, u96, u97, u98, u99, u100, u101, u102, u103, u104, u105, u106, u107, u108, u109, u110, u111, u112, u113, u114, u115, u116, u117, u118, u119, u120, u121, u122, u123, u124, u125, u126, .slice av vals.length cv, .int .i64 (vals.length : Int), v129, v130, v131, v132, v133, v134, v135, v136, v137, v138, v139, v140, v141, v142, v143, v144, v145, v146, v147, v148, u149], defers := ds } W) :
    Code.wp Tryd.prog mkB8 K { tmps := #[u0, u1, u2, u3, u4, u5, u6, u7, .pointer (some ⟨Bp, 0, none⟩), u9, u10, .pointer (some ⟨Bg, 0, none⟩), u12, u13, u14, u15, u16, u17, u18, u19, u20, u21, u22, u23, u24, u25, u26, u27, u28, u29, u30, u31, u32, u33, u34, u35, u36, u37, u38, u39, u40, u41, u42, u43, u44, u45, u46, u47, u48, u49, u50, u51, u52, u53, u54, u55, u56, u57, u58, u59, u60, u61, u62, u63, u64, u65, u66, u67, u68, u69, u70, u71, u72, u73, u74, u75, u76, u77, u78, u79, u80, u81, u82, u83, u84, u85, u86, u87, u88, u89, u90, u91, u92, u93, u94, u95, u96, u97, u98, u99, u100, u101, u102, u103, u104, u105, u106, u107, u108, u109, u110, u111, u112, u113, u114, u115, u116, u117, u118, u119, u120, u121, u122, u123, u124, u125, u126, .slice av vals.length cv, .int .i64 (vals.length : Int), .int .i64 0, u130, u131, u132, u133, u134, u135, u136, u137, u138, u139, u140, u141, u142, u143, u144, u145, u146, u147, u148, u149], defers := ds } W0 := by
  have HGO := Lib.hid hgo
  have HWK := Lib.hid hwk
  have HBP := Lib.hid hbp
  have HBG := Lib.hid hbg
  have HVR := Lib.hid hvr
  have HX1 := Lib.hid hx1
  have HX2 := Lib.hid hx2
  have HX3 := Lib.hid hx3
  have HGN := Lib.hid hgN
  have HSZ := Lib.hid hsz
  have HFI := Lib.hid (first_pws hwk.wf hml)
  have HML := Lib.hid hml
  have vl1 : (vals.length : Int) ≤ 100 := by omega
  have HVL := Lib.hid hvl
  clear hgo hwk hbp hbg hvr hx1 hx2 hx3 hgN hsz hml hvl
  conv => arg 2; whnf
  go_wp2
  go_loopg [129] vals.length (fun gk s129 wr => Mk8R W0 N Bg rows met vals gk s129 wr)
  case atStart => exact ⟨0, .slice none 0 0, rfl, by omega, HBG.out, VRow.nil _ _ _, Chg.refl _ _⟩
  case round =>
    obtain ⟨j, og, rfl, hj, hbg, hor, hch⟩ := hrel
    have HJ := Lib.hid hj
    have HBG1 := Lib.hid hbg
    have HOR := Lib.hid hor
    have HCH := Lib.hid hch
    have j0 : (0 : Int) ≤ (j : Int) := by omega
    clear hj hbg hor hch
    by_cases hlt : j < vals.length
    · have j1 : (j : Int) < (vals.length : Int) := by omega
      obtain ⟨t, ht⟩ : ∃ t, vals[j]? = some t := ⟨_, List.getElem?_eq_getElem hlt⟩
      have HT := Lib.hid ht
      have HLT := Lib.hid hlt
      have hbd : ∀ k, k < W0.heap.size → k ≠ Bg → wr.heap[k]? = W0.heap[k]? := fun k hk hn => HCH.out.block k hk (by simpa using hn)
      have hpb := (hbd Bp (lt_of_block HBP.out) (fun e => HX2.out e.symm)).trans HBP.out
      have hwk := HWK.out.chg HCH.out (fun k hk => by simp only [List.mem_singleton]; rintro rfl; exact HX1.out hk)
      have hvr := HVR.out.chg HCH.out (fun k hk => by simp only [List.mem_singleton]; exact HX3.out k hk) (fun b hb => ⟨Nat.lt_of_lt_of_le hb HWK.out.n0, by simp only [List.mem_singleton]; have := HGN.out; omega⟩)
      obtain ⟨b, at0, ct0, rfl, hbl, hbM, t0, t1, t2, t3, htv⟩ := hvr.get ht
      have HWK1 := Lib.hid hwk
      have HPB := Lib.hid hpb
      have HVR1 := Lib.hid hvr
      have HTV := Lib.hid htv
      have hts := HSZ.out t (List.mem_of_getElem? ht)
      have HTS := Lib.hid hts
      have hN : N ≤ wr.heap.size := Nat.le_trans HWK.out.n0 HCH.out.size
      have HN := Lib.hid hN
      obtain ⟨ao, co, eo⟩ := HOR.out.form
      rw [List.length_map, List.length_take, Nat.min_eq_left (by omega)] at eo
      subst eo
      clear ht hlt hbd hpb hwk hvr hbl hbM htv hts hN
      obtain ⟨asl, cs, es⟩ := HWK1.out.pr.form
      subst es
      go_wp2
      have hbx := World.alloc_heap_new wr (.cells #[.int .i64 t.kind, .int .i64 t.num, .string t.text, .slice at0 t.kids.length ct0] 26)
      have hc1 : Chg [] wr (wr.alloc (.cells #[.int .i64 t.kind, .int .i64 t.num, .string t.text, .slice at0 t.kids.length ct0] 26)) := (Chg.refl [] wr).alloc _
      generalize wr.alloc (.cells #[.int .i64 t.kind, .int .i64 t.num, .string t.text, .slice at0 t.kids.length ct0] 26) = W1 at hbx hc1 ⊢
      have hb1 : Below wr.heap.size wr W1 := hc1.below (Nat.le_refl _) (by simp)
      have hwk1 := HWK1.out.below hb1
      obtain ⟨mb, hmb⟩ : ∃ mb, (t.move (firstP (pairs met))).isSome = mb := ⟨_, rfl⟩
      have hmv : ∀ W, Chg [] W1 W → Calls Tryd.prog 13 #[.agg #[.int .i64 t.kind, .int .i64 t.num, .string t.text, .slice at0 t.kids.length ct0], .slice asl (pws met).length cs] W (fun e w' => ∃ v, e = .returned (.tuple #[v, .bool mb]) ∧ ValIs w' (fun b => (b < N ∨ W.heap.size ≤ b) ∧ b < w'.heap.size) (mvT met t) v ∧ Below W.heap.size W w') := fun W hW => by
        have hbW : Below W1.heap.size W1 W := hW.below (Nat.le_refl _) (by simp)
        have h := move_any t (vval t at0 ct0) W (fun b => b < N) (.slice asl (pws met).length cs) (pws met) (by have := HTS.out; omega) (((HTV.out.below hb1 (fun b hb => Nat.lt_of_lt_of_le hb HN.out))).below hbW (fun b hb => Nat.lt_of_lt_of_le (Nat.lt_of_lt_of_le hb HN.out) hb1.size)) (fun b hb => Nat.lt_of_lt_of_le (Nat.lt_of_lt_of_le (Nat.lt_of_lt_of_le hb HN.out) hb1.size) hbW.size) (by rw [pws_len]; have := HML.out; omega) ((hwk1.pr.chg hW (by simp)).is) ⟨_, _, _, rfl⟩
        rw [HFI.out] at h
        unfold MoveEnd at h
        rw [hmb] at h
        exact h
      have zp1 := (hb1.block Bp (lt_of_block HPB.out)).trans HPB.out
      have hS : ∀ W, Chg [] W1 W → (W.cell? ⟨wr.heap.size, 0, none⟩ = some (.int .i64 t.kind) ∧ W.cell? ⟨wr.heap.size, 1, none⟩ = some (.int .i64 t.num) ∧ W.cell? ⟨wr.heap.size, 2, none⟩ = some (.string t.text) ∧ W.cell? ⟨wr.heap.size, 3, none⟩ = some (.slice at0 t.kids.length ct0)) ∧ W.cell? ⟨Bp, 0, none⟩ = some (.pointer (some ⟨Bw, 0, none⟩)) ∧ W.cell? ⟨Bw, 3, none⟩ = some (.slice asl (pws met).length cs) := fun W hW => by
        have g1 := (hW.block _ (lt_of_block hbx) (by simp)).trans hbx
        have g2 := (hW.block _ (lt_of_block zp1) (by simp)).trans zp1
        have g3 := (hW.block _ (lt_of_block hwk1.blk) (by simp)).trans hwk1.blk
        refine ⟨⟨by simp [World.cell?, g1], by simp [World.cell?, g1], by simp [World.cell?, g1], by simp [World.cell?, g1]⟩, by simp [World.cell?, g2], by simp [World.cell?, g3]⟩
      have HS := Lib.hid hS
      have HMV := Lib.hid hmv
      have HC1 := Lib.hid hc1
      have HB1 := Lib.hid hb1
      have hN1 : N ≤ W1.heap.size := Nat.le_trans HN.out hb1.size
      have HN1 := Lib.hid hN1
      generalize hBx : wr.heap.size = Bx at hS HS ⊢
      clear hbx hc1 hb1 hwk1 hmv zp1 hS hmb t0 t1 t2 t3 hN1
      go_region_held3 (fun W => (W.cell? ⟨Bx, 0, none⟩ = some (.int .i64 t.kind) ∧ W.cell? ⟨Bx, 1, none⟩ = some (.int .i64 t.num) ∧ W.cell? ⟨Bx, 2, none⟩ = some (.string t.text) ∧ W.cell? ⟨Bx, 3, none⟩ = some (.slice at0 t.kids.length ct0)) ∧ W.cell? ⟨Bp, 0, none⟩ = some (.pointer (some ⟨Bw, 0, none⟩)) ∧ W.cell? ⟨Bw, 3, none⟩ = some (.slice asl (pws met).length cs))
        (exact HS.out _ (by repeat (first | exact HC5.out | exact Chg.refl _ _ | refine chg_drew ?_ | refine Chg.setCell ?_ (.inr (by simp)) _ | refine Chg.alloc ?_ _)))
        (first
          | (go_at_call 13; (with_reducible refine (HMV.out ((W1.alloc (.cells #[.int .i64 0, .int .i64 0, .string ⟨#[]⟩, .slice none 0 0] 26)).drew) (by repeat (first | exact Chg.refl _ _ | refine chg_drew ?_ | refine Chg.setCell ?_ (.inr (by simp)) _ | refine Chg.alloc ?_ _))).mono ?_); clear HMV; rintro e w5 ⟨v5, rfl, hv5, hb5⟩; obtain ⟨a5, c5, rfl⟩ := hv5.form; have HV5 := Lib.hid hv5; have HB5 := Lib.hid hb5; have hc5 : Chg [] W1 w5 := (by refine Chg.trans (F := []) ?_ (below_chg hb5) (fun k hk => by cases hk); repeat (first | exact Chg.refl _ _ | refine chg_drew ?_ | refine Chg.setCell ?_ (.inr (by simp)) _ | refine Chg.alloc ?_ _)); have HC5 := Lib.hid hc5; clear hc5; have hz := (hb5.block W1.heap.size (by simp)).trans (World.alloc_heap_new W1 (.cells #[.int .i64 0, .int .i64 0, .string ⟨#[]⟩, .slice none 0 0] 26)); obtain ⟨z0, z1, z2, z3, z4⟩ := hdr4_cells hz; have HZ := Lib.hid hz; clear hz hv5 hb5; unfold vval at HV5 ⊢)
          | (go_at_call 13; (with_reducible refine (HMV.out W1.drew (by repeat (first | exact Chg.refl _ _ | refine chg_drew ?_ | refine Chg.setCell ?_ (.inr (by simp)) _ | refine Chg.alloc ?_ _))).mono ?_); clear HMV; rintro e w5 ⟨v5, rfl, hv5, hb5⟩; obtain ⟨a5, c5, rfl⟩ := hv5.form; have HV5 := Lib.hid hv5; have HB5 := Lib.hid hb5; have hc5 : Chg [] W1 w5 := (by refine Chg.trans (F := []) ?_ (below_chg hb5) (fun k hk => by cases hk); repeat (first | exact Chg.refl _ _ | refine chg_drew ?_ | refine Chg.setCell ?_ (.inr (by simp)) _ | refine Chg.alloc ?_ _)); have HC5 := Lib.hid hc5; clear hc5; clear hv5 hb5; unfold vval at HV5 ⊢))
      · have hbx := box_b (N := N) HC5.out HV5.out
        have HBX := Lib.hid hbx
        clear hbx
        generalize w5.alloc (.cells #[.int .i64 (mvT met t).kind, .int .i64 (mvT met t).num, .string (mvT met t).text, .slice a5 (mvT met t).kids.length c5] 26) = W2 at HBX ⊢
        have zg := (HBX.out.2.1.block Bg (Nat.lt_of_lt_of_le (lt_of_block HBG1.out) HC1.out.size) (by simp)).trans ((HC1.out.block Bg (lt_of_block HBG1.out) (by simp)).trans HBG1.out)
        have y1 : W2.cell? ⟨Bg, 1, none⟩ = some (.slice ao j co) := by unfold World.cell?; rw [zg]; rfl
        have y2 : ∀ i, W2.frozen? ⟨Bg, i, none⟩ = false := fun i => by simp [World.frozen?, zg]
        obtain ⟨t0, t1, t2, t3, _⟩ := hdr4_cells HBX.out.2.2.1
        have hlw : wr.heap.size ≤ W1.heap.size := HC1.out.size
        have hl0 : W0.heap.size ≤ wr.heap.size := HCH.out.size
        have hl2 : W1.heap.size ≤ W2.heap.size := HBX.out.2.1.size
        have hown : ∀ k, (Value.slice ao j co).ownBlock = some k → W0.heap.size ≤ k ∧ k < wr.heap.size := fun k hk => ⟨HOR.out.own hk, HOR.out.lt hk⟩
        have hN0 := HWK.out.n0
        have hg0 := lt_of_block HBG.out
        have hc2 : Chg [] wr W2 := HC1.out.trans HBX.out.2.1 (fun k hk => by cases hk)
        have hr2 : VRow W2 W0.heap.size (fun b => (b < N ∨ W0.heap.size ≤ b) ∧ b < W2.heap.size ∧ (Value.slice ao j co).ownBlock ≠ some b) (.slice ao j co) ((vals.take j).map (mvT met)) := (VRow.chg HOR.out hc2 (by simp) (fun b hb => ⟨hb.2.1, by simp⟩)).mono (fun b hb => ⟨hb.1, Nat.lt_of_lt_of_le hb.2.1 hc2.size, hb.2.2⟩)
        have hv2 : ValIs W2 (fun b => (b < N ∨ W0.heap.size ≤ b) ∧ b < W2.heap.size ∧ (Value.slice ao j co).ownBlock ≠ some b) (mvT met t) (vval (mvT met t) a5 c5) := HBX.out.2.2.2.mono (fun b hb => ⟨hb.1.imp_right (fun h => by omega), hb.2, fun h => by have := hown b h; rcases hb.1 with h1 | h1 <;> omega⟩)
        have HL := Lib.hid (And.intro hlw (And.intro hl0 (And.intro hl2 (And.intro hN0 hg0))))
        have HOWN := Lib.hid hown
        have HC2 := Lib.hid hc2
        have HR2 := Lib.hid hr2
        have HV2 := Lib.hid hv2
        have HZG := Lib.hid zg
        clear hlw hl0 hl2 hown hN0 hg0 hc2 hr2 hv2 zg
        have ll : ((vals.take j).map (mvT met)).length = j := by rw [List.length_map, List.length_take]; have := HLT.out; omega
        have HLL := Lib.hid ll
        clear ll
        go_wp2_with (at_builtin; refine wpList_appv (w := W2.alloc (.cells #[.int .i64 (mvT met t).kind, .int .i64 (mvT met t).num, .string (mvT met t).text, .slice a5 (mvT met t).kids.length c5] 26)) (N := W0.heap.size) (P := fun b => (b < N ∨ W0.heap.size ≤ b) ∧ b < W2.heap.size ∧ (Value.slice ao j co).ownBlock ≠ some b) (v := .slice ao j co) (l := (vals.take j).map (mvT met)) (t := mvT met t) (p := (a5, c5)) (ad := ⟨W2.heap.size, 0, none⟩) (c := 1) rfl _ _ rfl rfl (HR2.out.chg ((Chg.refl [] W2).alloc _) (by simp) (fun b hb => ⟨hb.2.1, by simp⟩)) rfl (cell_four_newG W2 _ _ _ _ _) (HV2.out.chg ((Chg.refl [] W2).alloc _) (fun b hb => ⟨hb.2.1, by simp⟩)) (by have := HL.out; simp; omega) (by rw [HLL.out]; have := HLT.out; have := HVL.out; omega) (fun b hb => ⟨by have := hb.2.1; simp; omega, hb.2.2⟩) ?_; intro a9 c9 w9 hr9 ho9; rw [HLL.out] at hr9 ho9 ⊢; have hz9 := (ho9.block (by have := lt_of_block HZG.out; simp; omega) (fun h => by have := (HOWN.out Bg h).1; have := HL.out; omega)).trans ((Below.heap_alloc _ _ _ (lt_of_block HZG.out)).trans HZG.out); have yy1 : w9.cell? ⟨Bg, 1, none⟩ = some (.slice ao j co) := (by unfold World.cell?; rw [hz9]; rfl); have yy2 : ∀ i, w9.frozen? ⟨Bg, i, none⟩ = false := (fun i => by simp [World.frozen?, hz9]); have HR9 := Lib.hid hr9; have HO9 := Lib.hid ho9; have HZ9 := Lib.hid hz9; clear hr9 ho9 hz9)
        have hz10 := (heap_setCell_same w9 Bg 1 _ _ (.slice a9 (j + 1) c9) HZ9.out).trans rfl
        have hc10 : Chg [Bg] w9 (w9.setCell ⟨Bg, 1, none⟩ (.slice a9 (j + 1) c9)) := (Chg.refl _ _).setCell (.inl (by simp)) _
        generalize w9.setCell ⟨Bg, 1, none⟩ (.slice a9 (j + 1) c9) = w10 at hz10 hc10 ⊢
        have hs9 : W2.heap.size + 1 ≤ w9.heap.size := by have := HO9.out.1.size; simpa using this
        have ho9' : ∀ k, (Value.slice a9 (j + 1) c9).ownBlock = some k → (Value.slice ao j co).ownBlock = some k ∨ W2.heap.size + 1 ≤ k := fun k hk => by
          rcases HO9.out.2 with e | ⟨q, e, hq⟩
          · exact .inl (e ▸ hk)
          · rw [hk] at e; cases e; exact .inr (by simpa using hq)
        go_roundg (gk - 1)
        case measure => have := HJ.out; have := HLT.out; omega
        case rel =>
          have hll := HL.out
          refine ⟨j + 1, _, by go_num, by have := HJ.out; have := HLT.out; omega, hz10, ?_, ?_⟩
          · rw [List.take_add_one, HT.out, List.map_append]
            have hm : VRow w9 W0.heap.size (fun b => (b < N ∨ W0.heap.size ≤ b) ∧ b < w9.heap.size ∧ (Value.slice a9 (j + 1) c9).ownBlock ≠ some b) (.slice a9 (j + 1) c9) (List.map (mvT met) (vals.take j) ++ [mvT met t]) := HR9.out.mono (fun b hb => ⟨hb.1, by have := hb.2.1; omega, fun h => by
              rcases ho9' b h with e | e
              · exact hb.2.2 e
              · have := hb.2.1; omega⟩)
            refine (hm.chg hc10 (fun k hk => ?_) (fun b hb => ⟨hb.2.1, ?_⟩)).mono (fun b hb => ⟨hb.1, Nat.lt_of_lt_of_le hb.2.1 hc10.size, hb.2.2⟩)
            · simp only [List.mem_singleton]
              rcases ho9' k hk with e | e
              · have := (HOWN.out k e).1; omega
              · omega
            · simp only [List.mem_singleton]
              have := HGN.out
              rcases hb.1 with h | h <;> omega
          · exact (((HCH.out.trans HC2.out (fun k hk => by cases hk)).alloc _).trans HO9.out.1 (fun k hk => .inr (HOWN.out k (by simpa using hk)).1)).trans hc10 (fun k hk => .inl hk)
      · have hbx := box_a (N := N) HC5.out HV5.out HZ.out HN1.out
        have HBX := Lib.hid hbx
        clear hbx
        generalize ((((w5.setCell _ _).setCell _ _).setCell _ _).setCell _ _) = W2 at HBX ⊢
        have zg := (HBX.out.2.1.block Bg (Nat.lt_of_lt_of_le (lt_of_block HBG1.out) HC1.out.size) (by simp)).trans ((HC1.out.block Bg (lt_of_block HBG1.out) (by simp)).trans HBG1.out)
        have y1 : W2.cell? ⟨Bg, 1, none⟩ = some (.slice ao j co) := by unfold World.cell?; rw [zg]; rfl
        have y2 : ∀ i, W2.frozen? ⟨Bg, i, none⟩ = false := fun i => by simp [World.frozen?, zg]
        obtain ⟨t0, t1, t2, t3, _⟩ := hdr4_cells HBX.out.2.2.1
        have hlw : wr.heap.size ≤ W1.heap.size := HC1.out.size
        have hl0 : W0.heap.size ≤ wr.heap.size := HCH.out.size
        have hl2 : W1.heap.size ≤ W2.heap.size := HBX.out.2.1.size
        have hown : ∀ k, (Value.slice ao j co).ownBlock = some k → W0.heap.size ≤ k ∧ k < wr.heap.size := fun k hk => ⟨HOR.out.own hk, HOR.out.lt hk⟩
        have hN0 := HWK.out.n0
        have hg0 := lt_of_block HBG.out
        have hc2 : Chg [] wr W2 := HC1.out.trans HBX.out.2.1 (fun k hk => by cases hk)
        have hr2 : VRow W2 W0.heap.size (fun b => (b < N ∨ W0.heap.size ≤ b) ∧ b < W2.heap.size ∧ (Value.slice ao j co).ownBlock ≠ some b) (.slice ao j co) ((vals.take j).map (mvT met)) := (VRow.chg HOR.out hc2 (by simp) (fun b hb => ⟨hb.2.1, by simp⟩)).mono (fun b hb => ⟨hb.1, Nat.lt_of_lt_of_le hb.2.1 hc2.size, hb.2.2⟩)
        have hv2 : ValIs W2 (fun b => (b < N ∨ W0.heap.size ≤ b) ∧ b < W2.heap.size ∧ (Value.slice ao j co).ownBlock ≠ some b) (mvT met t) (vval (mvT met t) a5 c5) := HBX.out.2.2.2.mono (fun b hb => ⟨hb.1.imp_right (fun h => by omega), hb.2, fun h => by have := hown b h; rcases hb.1 with h1 | h1 <;> omega⟩)
        have HL := Lib.hid (And.intro hlw (And.intro hl0 (And.intro hl2 (And.intro hN0 hg0))))
        have HOWN := Lib.hid hown
        have HC2 := Lib.hid hc2
        have HR2 := Lib.hid hr2
        have HV2 := Lib.hid hv2
        have HZG := Lib.hid zg
        clear hlw hl0 hl2 hown hN0 hg0 hc2 hr2 hv2 zg
        have ll : ((vals.take j).map (mvT met)).length = j := by rw [List.length_map, List.length_take]; have := HLT.out; omega
        have HLL := Lib.hid ll
        clear ll
        go_wp2_with (at_builtin; refine wpList_appv (w := W2.alloc (.cells #[.int .i64 (mvT met t).kind, .int .i64 (mvT met t).num, .string (mvT met t).text, .slice a5 (mvT met t).kids.length c5] 26)) (N := W0.heap.size) (P := fun b => (b < N ∨ W0.heap.size ≤ b) ∧ b < W2.heap.size ∧ (Value.slice ao j co).ownBlock ≠ some b) (v := .slice ao j co) (l := (vals.take j).map (mvT met)) (t := mvT met t) (p := (a5, c5)) (ad := ⟨W2.heap.size, 0, none⟩) (c := 1) rfl _ _ rfl rfl (HR2.out.chg ((Chg.refl [] W2).alloc _) (by simp) (fun b hb => ⟨hb.2.1, by simp⟩)) rfl (cell_four_newG W2 _ _ _ _ _) (HV2.out.chg ((Chg.refl [] W2).alloc _) (fun b hb => ⟨hb.2.1, by simp⟩)) (by have := HL.out; simp; omega) (by rw [HLL.out]; have := HLT.out; have := HVL.out; omega) (fun b hb => ⟨by have := hb.2.1; simp; omega, hb.2.2⟩) ?_; intro a9 c9 w9 hr9 ho9; rw [HLL.out] at hr9 ho9 ⊢; have hz9 := (ho9.block (by have := lt_of_block HZG.out; simp; omega) (fun h => by have := (HOWN.out Bg h).1; have := HL.out; omega)).trans ((Below.heap_alloc _ _ _ (lt_of_block HZG.out)).trans HZG.out); have yy1 : w9.cell? ⟨Bg, 1, none⟩ = some (.slice ao j co) := (by unfold World.cell?; rw [hz9]; rfl); have yy2 : ∀ i, w9.frozen? ⟨Bg, i, none⟩ = false := (fun i => by simp [World.frozen?, hz9]); have HR9 := Lib.hid hr9; have HO9 := Lib.hid ho9; have HZ9 := Lib.hid hz9; clear hr9 ho9 hz9)
        have hz10 := (heap_setCell_same w9 Bg 1 _ _ (.slice a9 (j + 1) c9) HZ9.out).trans rfl
        have hc10 : Chg [Bg] w9 (w9.setCell ⟨Bg, 1, none⟩ (.slice a9 (j + 1) c9)) := (Chg.refl _ _).setCell (.inl (by simp)) _
        generalize w9.setCell ⟨Bg, 1, none⟩ (.slice a9 (j + 1) c9) = w10 at hz10 hc10 ⊢
        have hs9 : W2.heap.size + 1 ≤ w9.heap.size := by have := HO9.out.1.size; simpa using this
        have ho9' : ∀ k, (Value.slice a9 (j + 1) c9).ownBlock = some k → (Value.slice ao j co).ownBlock = some k ∨ W2.heap.size + 1 ≤ k := fun k hk => by
          rcases HO9.out.2 with e | ⟨q, e, hq⟩
          · exact .inl (e ▸ hk)
          · rw [hk] at e; cases e; exact .inr (by simpa using hq)
        go_roundg (gk - 1)
        case measure => have := HJ.out; have := HLT.out; omega
        case rel =>
          have hll := HL.out
          refine ⟨j + 1, _, by go_num, by have := HJ.out; have := HLT.out; omega, hz10, ?_, ?_⟩
          · rw [List.take_add_one, HT.out, List.map_append]
            have hm : VRow w9 W0.heap.size (fun b => (b < N ∨ W0.heap.size ≤ b) ∧ b < w9.heap.size ∧ (Value.slice a9 (j + 1) c9).ownBlock ≠ some b) (.slice a9 (j + 1) c9) (List.map (mvT met) (vals.take j) ++ [mvT met t]) := HR9.out.mono (fun b hb => ⟨hb.1, by have := hb.2.1; omega, fun h => by
              rcases ho9' b h with e | e
              · exact hb.2.2 e
              · have := hb.2.1; omega⟩)
            refine (hm.chg hc10 (fun k hk => ?_) (fun b hb => ⟨hb.2.1, ?_⟩)).mono (fun b hb => ⟨hb.1, Nat.lt_of_lt_of_le hb.2.1 hc10.size, hb.2.2⟩)
            · simp only [List.mem_singleton]
              rcases ho9' k hk with e | e
              · have := (HOWN.out k e).1; omega
              · omega
            · simp only [List.mem_singleton]
              have := HGN.out
              rcases hb.1 with h | h <;> omega
          · exact (((HCH.out.trans HC2.out (fun k hk => by cases hk)).alloc _).trans HO9.out.1 (fun k hk => .inr (HOWN.out k (by simpa using hk)).1)).trans hc10 (fun k hk => .inl hk)
    · have j1 : ¬ (j : Int) < (vals.length : Int) := by omega
      have ho := HOR.out
      rw [List.take_of_length_le (by omega)] at ho
      have HO := Lib.hid ho
      clear ho
      go_wp2
      exact HGO.out _ _ _ _ _ _ _ _ _ _ _ _ _ _ _ _ _ _ _ _ _ _ _ _ _ HBG1.out HO.out HCH.out
end Go.Proofs.YtenikoecnfbfoaaDoor
/- Layer 8: objects in memory; the library's iterator over them, backward. -/
namespace Go.Proofs.YtenikoecnfbfoaaDoor
open Go.RowKit Go.Shelf Go.Maps
set_option linter.unusedVariables false
set_option linter.unusedSimpArgs false
attribute [local go_sem] Oper.semAt_some
open Gr (findO)

/-- A slice that reads as objects. -/
def ObAt (w : World) (v : Value) (obs : List OB) : Prop :=
  ∃ ao cap, v = .slice ao obs.length cap ∧ obs.length ≤ cap ∧ cap ≤ maxLen ∧ (ao = none → cap = 0) ∧ (∀ b off s, ao = some ⟨b, off, s⟩ → s = none ∧ b < w.heap.size) ∧ ∀ (j : Nat) x, obs[j]? = some x → ∃ b off, ao = some ⟨b, off, none⟩ ∧ ObCells w b off j x
theorem ObAt.below {w w' : World} {v : Value} {obs : List OB} (h : ObAt w v obs) (hb : Below w.heap.size w w') : ObAt w' v obs := by
  obtain ⟨ao, cap, h1, h2, h3, h4, h5, h6⟩ := h
  refine ⟨ao, cap, h1, h2, h3, h4, fun b off s hs => ⟨(h5 b off s hs).1, Nat.lt_of_lt_of_le (h5 b off s hs).2 hb.size⟩, fun j x hj => ?_⟩
  obtain ⟨b, off, e1, c0, c1, c2, c3, c4⟩ := h6 j x hj
  have hbl := (h5 b off none e1).2
  exact ⟨b, off, e1, (hb.cell (p := ⟨b, off + j * 5, none⟩) hbl).trans c0, (hb.cell (p := ⟨b, off + j * 5 + 1, none⟩) hbl).trans c1, (hb.cell (p := ⟨b, off + j * 5 + 2, none⟩) hbl).trans c2, (hb.cell (p := ⟨b, off + j * 5 + 3, none⟩) hbl).trans c3, (hb.cell (p := ⟨b, off + j * 5 + 4, none⟩) hbl).trans c4⟩
/-- One of them, and where it stands. -/
abbrev PO (obs : List OB) := { x : Nat × OB // obs[x.1]? = some x.2 }
def obV (x : OB) : Value := .agg #[.int .i64 x.k, .int .i64 x.n, .string x.s, .slice x.ao x.len x.cap]
def encO (obs : List OB) (x : PO obs) : Array Value := #[.int .i64 (x.1.1 : Int), .agg #[.int .i64 x.1.2.id, .int .i64 x.1.2.k, .int .i64 x.1.2.n, .string x.1.2.s, .slice x.1.2.ao x.1.2.len x.1.2.cap]]
theorem backO_stops (F : Fence) (n : Nat) (h7 : F.fn 19) (hro : F.round = none) (hn : 1 ≤ n) (Bs n₀ : Nat) (sv : Value) (zs : List OB) (hreach : zs.length ≤ 1000000) (w : World) (hBs : Bs < w.heap.size) (hn₀ : n₀ ≤ w.heap.size)
    (hc : w.cell? ⟨Bs, 0, none⟩ = some sv) (hI : ObAt w sv zs) (hsv : ∀ a n c, sv = .slice (some a) n c → a.block < n₀) :
    SeqStopsK F n Tryd.prog 19 #[.pointer (some ⟨Bs, 0, none⟩)] (encO zs) (KpB n₀ Bs) (fun ys => ys.map (·.1.2) = zs.reverse) (fun _ => True) zs.length w := fun l J Jx W hW _ _ hY h0 => by
  have hc' := (hW.cell (p := ⟨Bs, 0, none⟩) hBs).trans hc
  have hI2 := hI.below hW
  obtain ⟨ao, cap, rfl, h1, h2, h3, h4, h5⟩ := hI2
  cases ao with
  | none =>
    have hcp := h3 rfl
    have hz : zs = [] := List.length_eq_zero_iff.1 (by omega)
    subst hz
    subst hcp
    exact (backO1_nil_in F n h7 hro l Bs (fun pre W => ∃ pre' : List (PO []), pre'.map (·.1) = pre ∧ J pre' W) W hc' ⟨[], rfl, h0⟩).mono fun e W' ⟨he, hj⟩ => ⟨he, by
      obtain ⟨pre', hp, hj⟩ := hj
      have : pre' = [] := by simpa using hp
      subst this
      exact .inl ⟨[], rfl, hj⟩⟩
  | some a =>
    obtain ⟨b, off, s⟩ := a
    obtain ⟨rfl, hb⟩ := h4 b off s rfl
    refine (backO1_in F n h7 hro hn l Bs n₀ b off zs.length cap zs rfl hreach (hsv ⟨b, off, none⟩ _ _ rfl) (fun pre W => ∃ pre' : List (PO zs), pre'.map (·.1) = pre ∧ J pre' W) (fun pre W => ∃ pre' : List (PO zs), pre'.map (·.1) = pre ∧ Jx pre' W) (fun pre x W1 hJ hl hx => ?_) W hc' (fun j x hj => ?_) ⟨[], rfl, h0⟩).mono fun e W' ⟨he, hj⟩ => ⟨he, ?_⟩
    · obtain ⟨pre', hp, hJ⟩ := hJ
      refine (hY pre' ⟨x, hx⟩ W1 hJ (by rw [← hp, List.length_map] at hl; exact hl)).mono fun e W' h => ?_
      rcases h with ⟨h1, h2, h3⟩ | ⟨h1, h2⟩
      · exact .inl ⟨h1, ⟨_, by rw [List.map_append, hp]; rfl, h2⟩, h3⟩
      · exact .inr ⟨h1, _, by rw [List.map_append, hp]; rfl, h2⟩
    · obtain ⟨b1, o1, e1, c1⟩ := h5 j x hj
      cases e1
      exact c1
    · rcases hj with ⟨ys, hys, pre', hp, hj⟩ | ⟨pre, _, pre', hp, hj⟩
      · refine .inl ⟨pre', ?_, hj⟩
        rw [← hys, ← hp, List.map_map]
        rfl
      · exact .inr ⟨pre', trivial, hj⟩
/-- Objects, as they lie, read as numbers and values. -/
def ObsIs (w : World) (P : Nat → Prop) (obs : List OB) (objs : List (Int × VT)) : Prop :=
  obs.length = objs.length ∧ ∀ (j : Nat) (x : OB) (o : Int × VT), obs[j]? = some x → objs[j]? = some o → x.id = o.1 ∧ ValIs w P o.2 (obV x) ∧ (Lit.int .i64 x.id).wf = true
theorem ObsIs.below {w w' : World} {P : Nat → Prop} {M : Nat} {obs : List OB} {objs : List (Int × VT)} (h : ObsIs w P obs objs) (hb : Below M w w') (hP : ∀ b, P b → b < M) : ObsIs w' P obs objs :=
  ⟨h.1, fun j x o hx ho => ⟨(h.2 j x o hx ho).1, (h.2 j x o hx ho).2.1.below hb hP, (h.2 j x o hx ho).2.2⟩⟩
/-- What the map gives behind some of them. -/
def allM {obs : List OB} (pre : List (PO obs)) : Int → Option Value := pre.foldl (fun f x j => if j = x.1.2.id then some (obV x.1.2) else f j) (fun _ => none)
theorem allM_snoc {obs : List OB} (pre : List (PO obs)) (x : PO obs) : allM (pre ++ [x]) = fun j => if j = x.1.2.id then some (obV x.1.2) else allM pre j := by
  unfold allM
  rw [List.foldl_append]
  rfl
theorem allM_eq {obs : List OB} : ∀ (pre : List (PO obs)) (f : Int → Option Value) (id : Int), pre.foldl (fun f x j => if j = x.1.2.id then some (obV x.1.2) else f j) f id = match (pre.map (·.1.2)).reverse.find? (fun x => x.id == id) with
    | some x => some (obV x)
    | none => f id
  | [], f, id => rfl
  | x :: pre, f, id => by
    rw [List.foldl_cons, allM_eq pre, List.map_cons, List.reverse_cons, List.find?_append]
    cases h : (pre.map (·.1.2)).reverse.find? (fun x => x.id == id) with
    | some y => rfl
    | none =>
      simp only [Option.none_or]
      by_cases hx : x.1.2.id = id
      · rw [List.find?_cons_of_pos (by simpa using hx), if_pos hx.symm]
      · rw [List.find?_cons_of_neg (by simpa using hx), if_neg (fun e => hx e.symm), List.find?_nil]
theorem find_obs {w : World} {P : Nat → Prop} {id : Int} : ∀ {obs : List OB} {objs : List (Int × VT)}, ObsIs w P obs objs → match findO objs id with
    | some t => ∃ x, obs.find? (fun x => x.id == id) = some x ∧ ValIs w P t (obV x)
    | none => obs.find? (fun x => x.id == id) = none
  | [], [], _ => rfl
  | [], _ :: _, h => by have := h.1; simp at this
  | _ :: _, [], h => by have := h.1; simp at this
  | x :: obs, o :: objs, h => by
    have h0 := h.2 0 x o rfl rfl
    have ih := find_obs (id := id) (obs := obs) (objs := objs) ⟨by have := h.1; simpa using this, fun j y q hy hq => h.2 (j + 1) y q (by simpa using hy) (by simpa using hq)⟩
    unfold findO at ih ⊢
    by_cases hx : x.id = id
    · have e1 : (x.id == id) = true := by simpa using hx
      have e2 : (o.1 == id) = true := by rw [← h0.1]; exact e1
      simp only [List.find?_cons, e1, e2, Option.map_some]
      exact ⟨x, rfl, h0.2.1⟩
    · have e1 : (x.id == id) = false := by simpa using hx
      have e2 : (o.1 == id) = false := by rw [← h0.1]; exact e1
      simp only [List.find?_cons, e1, e2]
      exact ih
/-- Behind all of them, the map gives the first of each number. -/
theorem allM_at {w : World} {P : Nat → Prop} {obs : List OB} {objs : List (Int × VT)} (h : ObsIs w P obs objs) {ys : List (PO obs)} (hy : ys.map (·.1.2) = obs.reverse) : AllAt w P objs (allM ys) := fun id => by
  have hf := find_obs (id := id) h
  have he := allM_eq ys (fun _ => none) id
  rw [hy, List.reverse_reverse] at he
  cases ho : findO objs id with
  | some t =>
    rw [ho] at hf
    obtain ⟨x, hx, hv⟩ := hf
    rw [hx] at he
    obtain ⟨ao, cap, e⟩ := hv.form
    exact ⟨ao, cap, by rw [← e]; exact he, by rw [← e]; exact hv⟩
  | none =>
    rw [ho] at hf
    rw [hf] at he
    exact he
end Go.Proofs.YtenikoecnfbfoaaDoor
/- Layer 8: the program's Roots. -/
namespace Go.Proofs.YtenikoecnfbfoaaDoor
open Go.RowKit
set_option linter.unusedVariables false
set_option linter.unusedSimpArgs false
open Gr (RT gather rootOf rootsT dirT)
theorem text_bytes (s : ByteArray) : bytes s.data.toList = s := by
  cases s
  simp [bytes]
theorem infoRtG : (Tryd.prog.info? 36).map (fun i => (i.zero, i.size, i.bytes)) = some (some (.agg #[.string ⟨#[]⟩, .string ⟨#[]⟩, .int .i64 0]), 3, 40) := by kernel_rfl
/-- Two values, held against each other in a later world. -/
theorem same_two {f : FuncId} (hs : ∀ (a b : VT) (va vb : Value) (W : World) (P : Nat → Prop), ValIs W P a va → ValIs W P b vb → (∀ b, P b → b < W.heap.size) → Calls Tryd.prog f #[va, vb] W fun e w' => e = .returned (.bool (a.same b)) ∧ Below W.heap.size W w')
    {w wc w5 : World} {P : Nat → Prop} {a b : VT} {va vb : Value} (h1 : ValIs w P a va) (hP : ∀ b, P b → b < w.heap.size) (hb : Below w.heap.size w wc) (hb5 : Below wc.heap.size wc w5) (h2 : ValIs w5 (fun b => wc.heap.size ≤ b ∧ b < w5.heap.size) b vb) (o : Obj) :
    Calls Tryd.prog f #[va, vb] (w5.alloc o) fun e w' => e = .returned (.bool (a.same b)) ∧ Below (w5.alloc o).heap.size (w5.alloc o) w' := by
  have hb6 := (hb.trans (hb5.mono hb.size)).alloc (Nat.le_trans hb.size hb5.size) o
  refine hs a b va vb _ (fun b => b < (w5.alloc o).heap.size) ((h1.below hb6 hP).mono (fun b hb => Nat.lt_of_lt_of_le (hP b hb) hb6.size)) ((h2.below ((Below.refl w5.heap.size w5).alloc (Nat.le_refl _) o) (fun b hb => hb.2)).mono (fun b hb => by simp; omega)) (fun b hb => hb)
theorem same_hs : ∀ (a b : VT) (va vb : Value) (W : World) (P : Nat → Prop), ValIs W P a va → ValIs W P b vb → (∀ b, P b → b < W.heap.size) → Calls Tryd.prog 17 #[va, vb] W fun e w' => e = .returned (.bool (a.same b)) ∧ Below W.heap.size W w' := fun a b va vb W P => same_walk a.sz a b va vb W P (Nat.le_refl _)
def RsEnd (T : TypeId) (w : World) (v : VT) (vc : Array Value) (s4 : Value) (wr : World) : Prop :=
  ∃ a4 c4 out, s4 = .slice a4 out.length c4 ∧ gather 102 v [] = some out ∧ out.length ≤ 101 ∧ RtRow T wr (w.heap.size + 2) (.slice a4 out.length c4) out ∧ wr.heap[w.heap.size]? = some (.cells vc 26 (0, 0)) ∧ Below w.heap.size w wr
end Go.Proofs.YtenikoecnfbfoaaDoor
/- Layer 8: the program's sorted: is a root so? The region, over letters. -/
namespace Go.Proofs.YtenikoecnfbfoaaDoor
open Go.RowKit
set_option linter.unusedVariables false
set_option linter.unusedSimpArgs false
open Gr (RT)
noncomputable def sreg6 : Code := ((Tryd.f10.body.bind (regG 6)).getD .skip)
/-- What the region finds. -/
def bad6 (name typ : ByteArray) (id : Int) (i : Nat) (x : ByteArray) : Bool :=
  name.toList.isEmpty || decide ((40 : Int) < (name.size : Int)) || decide ((1000 : Int) < (typ.size : Int)) || decide (id < 1) || decide (1099511627776 < id) || (decide (0 < i) && name.toList == x.toList)
set_option maxRecDepth 100000 in
set_option maxHeartbeats 8000000 in
theorem s6_1 {K : Exit → Act → World → Prop} {W : World} {Br b off ln cap i : Nat} {name typ x : ByteArray} {id : Int} {u1 u2 u3 u6 u7 u8 u9 u10 u11 u12 u13 u14 u15 u16 u17 u18 u19 u20 u21 u22 u23 u24 u25 u26 u27 u28 u29 u30 u31 u32 u33 u34 u35 u36 u37 u38 u39 u40 u41 u42 u43 u44 u45 u46 u47 u48 u49 u50 u51 u52 u53 u54 u55 u56 u57 u58 : Value}
    (y0 : W.cell? ⟨Br, 0, none⟩ = some (.string name)) (y1 : W.cell? ⟨Br, 1, none⟩ = some (.string typ)) (y2 : W.cell? ⟨Br, 2, none⟩ = some (.int .i64 id)) (e1 : name.toList.isEmpty = true)
    (hgo : ∀ (v17 v18 v19 v20 v21 v22 v23 v24 v25 v26 v27 v28 v29 v30 v31 v32 v33 v34 v35 v36 v37 v38 v39 v40 v41 v42 v43 v44 v45 v46 v47 v48 v49 v50 v51 v52 v53 v54 v55 : Value) (B : Bool), B = true → K .normal { tmps := #[.slice (some ⟨b, off, none⟩) ln cap, u1, u2, u3, .int .i64 (i : Int), .pointer (some ⟨Br, 0, none⟩), u6, u7, u8, u9, u10, u11, u12, u13, u14, u15, u16, v17, v18, v19, v20, v21, v22, v23, v24, v25, v26, v27, v28, v29, v30, v31, v32, v33, v34, v35, v36, v37, v38, v39, v40, v41, v42, v43, v44, v45, v46, v47, v48, v49, v50, v51, v52, v53, v54, v55, .bool B, u57, u58], defers := [] } W.drew) :
    Code.wp Tryd.prog sreg6 K { tmps := #[.slice (some ⟨b, off, none⟩) ln cap, u1, u2, u3, .int .i64 (i : Int), .pointer (some ⟨Br, 0, none⟩), u6, u7, u8, u9, u10, u11, u12, u13, u14, u15, u16, u17, u18, u19, u20, u21, u22, u23, u24, u25, u26, u27, u28, u29, u30, u31, u32, u33, u34, u35, u36, u37, u38, u39, u40, u41, u42, u43, u44, u45, u46, u47, u48, u49, u50, u51, u52, u53, u54, u55, u56, u57, u58], defers := [] } W := by
  conv => arg 2; whnf
  refine still_abs 39 (by kernel_rfl) (by kernel_rfl) (fun X hX => ?_)
  have x3 := hX 3 20 rfl
  have x9 := hX 9 26 rfl
  have x15 := hX 15 32 rfl
  have x20 := hX 20 37 rfl
  have x25 := hX 25 42 rfl
  have x28 := hX 28 45 rfl
  clear hX
  have HGO := Lib.hid hgo
  clear hgo
  simp only [List.take_succ_cons, List.take_zero, List.drop_succ_cons, List.drop_zero]
  refine st_plain rfl (fun K hK => ?_); go_simp; refine hK _ ?_; clear hK K
  refine st_plain rfl (fun K hK => ?_); go_simp; refine hK _ ?_; clear hK K
  refine st_plain rfl (fun K hK => ?_); go_simp; refine hK _ ?_; clear hK K
  refine st_plain rfl (fun K hK => ?_); go_simp; refine hK _ ?_; clear hK K
  refine st_skip rfl x3 rfl rfl (fun K hK => ?_); simp only [Act.put, List.setIfInBounds_toArray, List.set_cons_zero, List.set_cons_succ]; refine hK _ ?_; clear hK K
  refine st_skip rfl x3 rfl rfl (fun K hK => ?_); simp only [Act.put, List.setIfInBounds_toArray, List.set_cons_zero, List.set_cons_succ]; refine hK _ ?_; clear hK K
  refine st_skip rfl x3 rfl rfl (fun K hK => ?_); simp only [Act.put, List.setIfInBounds_toArray, List.set_cons_zero, List.set_cons_succ]; refine hK _ ?_; clear hK K
  refine st_skip rfl x3 rfl rfl (fun K hK => ?_); simp only [Act.put, List.setIfInBounds_toArray, List.set_cons_zero, List.set_cons_succ]; refine hK _ ?_; clear hK K
  refine st_plain rfl (fun K hK => ?_); go_simp; refine hK _ ?_; clear hK K
  refine st_plain rfl (fun K hK => ?_); go_simp; refine hK _ ?_; clear hK K
  refine st_skip rfl x9 rfl rfl (fun K hK => ?_); simp only [Act.put, List.setIfInBounds_toArray, List.set_cons_zero, List.set_cons_succ]; refine hK _ ?_; clear hK K
  refine st_skip rfl x9 rfl rfl (fun K hK => ?_); simp only [Act.put, List.setIfInBounds_toArray, List.set_cons_zero, List.set_cons_succ]; refine hK _ ?_; clear hK K
  refine st_skip rfl x9 rfl rfl (fun K hK => ?_); simp only [Act.put, List.setIfInBounds_toArray, List.set_cons_zero, List.set_cons_succ]; refine hK _ ?_; clear hK K
  refine st_skip rfl x9 rfl rfl (fun K hK => ?_); simp only [Act.put, List.setIfInBounds_toArray, List.set_cons_zero, List.set_cons_succ]; refine hK _ ?_; clear hK K
  refine st_plain rfl (fun K hK => ?_); go_simp; refine hK _ ?_; clear hK K
  refine st_plain rfl (fun K hK => ?_); go_simp; refine hK _ ?_; clear hK K
  refine st_skip rfl x15 rfl rfl (fun K hK => ?_); simp only [Act.put, List.setIfInBounds_toArray, List.set_cons_zero, List.set_cons_succ]; refine hK _ ?_; clear hK K
  refine st_skip rfl x15 rfl rfl (fun K hK => ?_); simp only [Act.put, List.setIfInBounds_toArray, List.set_cons_zero, List.set_cons_succ]; refine hK _ ?_; clear hK K
  refine st_skip rfl x15 rfl rfl (fun K hK => ?_); simp only [Act.put, List.setIfInBounds_toArray, List.set_cons_zero, List.set_cons_succ]; refine hK _ ?_; clear hK K
  refine st_plain rfl (fun K hK => ?_); go_simp; refine hK _ ?_; clear hK K
  refine st_plain rfl (fun K hK => ?_); go_simp; refine hK _ ?_; clear hK K
  refine st_skip rfl x20 rfl rfl (fun K hK => ?_); simp only [Act.put, List.setIfInBounds_toArray, List.set_cons_zero, List.set_cons_succ]; refine hK _ ?_; clear hK K
  refine st_skip rfl x20 rfl rfl (fun K hK => ?_); simp only [Act.put, List.setIfInBounds_toArray, List.set_cons_zero, List.set_cons_succ]; refine hK _ ?_; clear hK K
  refine st_skip rfl x20 rfl rfl (fun K hK => ?_); simp only [Act.put, List.setIfInBounds_toArray, List.set_cons_zero, List.set_cons_succ]; refine hK _ ?_; clear hK K
  refine st_plain rfl (fun K hK => ?_); go_simp; refine hK _ ?_; clear hK K
  refine st_plain rfl (fun K hK => ?_); go_simp; refine hK _ ?_; clear hK K
  refine st_skip rfl x25 rfl rfl (fun K hK => ?_); simp only [Act.put, List.setIfInBounds_toArray, List.set_cons_zero, List.set_cons_succ]; refine hK _ ?_; clear hK K
  refine st_skip rfl x25 rfl rfl (fun K hK => ?_); simp only [Act.put, List.setIfInBounds_toArray, List.set_cons_zero, List.set_cons_succ]; refine hK _ ?_; clear hK K
  refine st_skip rfl x25 rfl rfl (fun K hK => ?_); simp only [Act.put, List.setIfInBounds_toArray, List.set_cons_zero, List.set_cons_succ]; refine hK _ ?_; clear hK K
  refine st_skip rfl x28 rfl rfl (fun K hK => ?_); simp only [Act.put, List.setIfInBounds_toArray, List.set_cons_zero, List.set_cons_succ]; refine hK _ ?_; clear hK K
  refine st_skip rfl x28 rfl rfl (fun K hK => ?_); simp only [Act.put, List.setIfInBounds_toArray, List.set_cons_zero, List.set_cons_succ]; refine hK _ ?_; clear hK K
  refine st_skip rfl x28 rfl rfl (fun K hK => ?_); simp only [Act.put, List.setIfInBounds_toArray, List.set_cons_zero, List.set_cons_succ]; refine hK _ ?_; clear hK K
  refine st_skip rfl x28 rfl rfl (fun K hK => ?_); simp only [Act.put, List.setIfInBounds_toArray, List.set_cons_zero, List.set_cons_succ]; refine hK _ ?_; clear hK K
  refine st_skip rfl x28 rfl rfl (fun K hK => ?_); simp only [Act.put, List.setIfInBounds_toArray, List.set_cons_zero, List.set_cons_succ]; refine hK _ ?_; clear hK K
  refine st_skip rfl x28 rfl rfl (fun K hK => ?_); simp only [Act.put, List.setIfInBounds_toArray, List.set_cons_zero, List.set_cons_succ]; refine hK _ ?_; clear hK K
  refine st_skip rfl x28 rfl rfl (fun K hK => ?_); simp only [Act.put, List.setIfInBounds_toArray, List.set_cons_zero, List.set_cons_succ]; refine hK _ ?_; clear hK K
  refine st_skip rfl x28 rfl rfl (fun K hK => ?_); simp only [Act.put, List.setIfInBounds_toArray, List.set_cons_zero, List.set_cons_succ]; refine hK _ ?_; clear hK K
  refine st_skip rfl x28 rfl rfl (fun K hK => ?_); simp only [Act.put, List.setIfInBounds_toArray, List.set_cons_zero, List.set_cons_succ]; refine hK _ ?_; clear hK K
  refine st_skip rfl x25 rfl rfl (fun K hK => ?_); simp only [Act.put, List.setIfInBounds_toArray, List.set_cons_zero, List.set_cons_succ]; refine hK _ ?_; clear hK K
  refine wpStill_nil ?_
  go_wp2
  exact HGO.out _ _ _ _ _ _ _ _ _ _ _ _ _ _ _ _ _ _ _ _ _ _ _ _ _ _ _ _ _ _ _ _ _ _ _ _ _ _ _ _ rfl
set_option maxRecDepth 100000 in
set_option maxHeartbeats 8000000 in
theorem s6_2 {K : Exit → Act → World → Prop} {W : World} {Br b off ln cap i : Nat} {name typ x : ByteArray} {id : Int} {u1 u2 u3 u6 u7 u8 u9 u10 u11 u12 u13 u14 u15 u16 u17 u18 u19 u20 u21 u22 u23 u24 u25 u26 u27 u28 u29 u30 u31 u32 u33 u34 u35 u36 u37 u38 u39 u40 u41 u42 u43 u44 u45 u46 u47 u48 u49 u50 u51 u52 u53 u54 u55 u56 u57 u58 : Value}
    (y0 : W.cell? ⟨Br, 0, none⟩ = some (.string name)) (y1 : W.cell? ⟨Br, 1, none⟩ = some (.string typ)) (y2 : W.cell? ⟨Br, 2, none⟩ = some (.int .i64 id)) (e1 : name.toList.isEmpty = false) (d2 : (40 : Int) < (name.size : Int))
    (hgo : ∀ (v17 v18 v19 v20 v21 v22 v23 v24 v25 v26 v27 v28 v29 v30 v31 v32 v33 v34 v35 v36 v37 v38 v39 v40 v41 v42 v43 v44 v45 v46 v47 v48 v49 v50 v51 v52 v53 v54 v55 : Value) (B : Bool), B = true → K .normal { tmps := #[.slice (some ⟨b, off, none⟩) ln cap, u1, u2, u3, .int .i64 (i : Int), .pointer (some ⟨Br, 0, none⟩), u6, u7, u8, u9, u10, u11, u12, u13, u14, u15, u16, v17, v18, v19, v20, v21, v22, v23, v24, v25, v26, v27, v28, v29, v30, v31, v32, v33, v34, v35, v36, v37, v38, v39, v40, v41, v42, v43, v44, v45, v46, v47, v48, v49, v50, v51, v52, v53, v54, v55, .bool B, u57, u58], defers := [] } W.drew) :
    Code.wp Tryd.prog sreg6 K { tmps := #[.slice (some ⟨b, off, none⟩) ln cap, u1, u2, u3, .int .i64 (i : Int), .pointer (some ⟨Br, 0, none⟩), u6, u7, u8, u9, u10, u11, u12, u13, u14, u15, u16, u17, u18, u19, u20, u21, u22, u23, u24, u25, u26, u27, u28, u29, u30, u31, u32, u33, u34, u35, u36, u37, u38, u39, u40, u41, u42, u43, u44, u45, u46, u47, u48, u49, u50, u51, u52, u53, u54, u55, u56, u57, u58], defers := [] } W := by
  conv => arg 2; whnf
  refine still_abs 39 (by kernel_rfl) (by kernel_rfl) (fun X hX => ?_)
  have x3 := hX 3 20 rfl
  have x9 := hX 9 26 rfl
  have x15 := hX 15 32 rfl
  have x20 := hX 20 37 rfl
  have x25 := hX 25 42 rfl
  have x28 := hX 28 45 rfl
  clear hX
  have HGO := Lib.hid hgo
  clear hgo
  simp only [List.take_succ_cons, List.take_zero, List.drop_succ_cons, List.drop_zero]
  refine st_plain rfl (fun K hK => ?_); go_simp; refine hK _ ?_; clear hK K
  refine st_plain rfl (fun K hK => ?_); go_simp; refine hK _ ?_; clear hK K
  refine st_plain rfl (fun K hK => ?_); go_simp; refine hK _ ?_; clear hK K
  refine st_plain rfl (fun K hK => ?_); go_simp; refine hK _ ?_; clear hK K
  refine st_want rfl x3 rfl (fun K hK => ?_); go_simp; refine hK _ ?_; clear hK K
  refine st_want rfl x3 rfl (fun K hK => ?_); go_simp; refine hK _ ?_; clear hK K
  refine st_want rfl x3 rfl (fun K hK => ?_); go_simp; refine hK _ ?_; clear hK K
  refine st_want rfl x3 rfl (fun K hK => ?_); go_simp; refine hK _ ?_; clear hK K
  refine st_plain rfl (fun K hK => ?_); go_simp; refine hK _ ?_; clear hK K
  refine st_plain rfl (fun K hK => ?_); go_simp; refine hK _ ?_; clear hK K
  refine st_skip rfl x9 rfl rfl (fun K hK => ?_); simp only [Act.put, List.setIfInBounds_toArray, List.set_cons_zero, List.set_cons_succ]; refine hK _ ?_; clear hK K
  refine st_skip rfl x9 rfl rfl (fun K hK => ?_); simp only [Act.put, List.setIfInBounds_toArray, List.set_cons_zero, List.set_cons_succ]; refine hK _ ?_; clear hK K
  refine st_skip rfl x9 rfl rfl (fun K hK => ?_); simp only [Act.put, List.setIfInBounds_toArray, List.set_cons_zero, List.set_cons_succ]; refine hK _ ?_; clear hK K
  refine st_skip rfl x9 rfl rfl (fun K hK => ?_); simp only [Act.put, List.setIfInBounds_toArray, List.set_cons_zero, List.set_cons_succ]; refine hK _ ?_; clear hK K
  refine st_plain rfl (fun K hK => ?_); go_simp; refine hK _ ?_; clear hK K
  refine st_plain rfl (fun K hK => ?_); go_simp; refine hK _ ?_; clear hK K
  refine st_skip rfl x15 rfl rfl (fun K hK => ?_); simp only [Act.put, List.setIfInBounds_toArray, List.set_cons_zero, List.set_cons_succ]; refine hK _ ?_; clear hK K
  refine st_skip rfl x15 rfl rfl (fun K hK => ?_); simp only [Act.put, List.setIfInBounds_toArray, List.set_cons_zero, List.set_cons_succ]; refine hK _ ?_; clear hK K
  refine st_skip rfl x15 rfl rfl (fun K hK => ?_); simp only [Act.put, List.setIfInBounds_toArray, List.set_cons_zero, List.set_cons_succ]; refine hK _ ?_; clear hK K
  refine st_plain rfl (fun K hK => ?_); go_simp; refine hK _ ?_; clear hK K
  refine st_plain rfl (fun K hK => ?_); go_simp; refine hK _ ?_; clear hK K
  refine st_skip rfl x20 rfl rfl (fun K hK => ?_); simp only [Act.put, List.setIfInBounds_toArray, List.set_cons_zero, List.set_cons_succ]; refine hK _ ?_; clear hK K
  refine st_skip rfl x20 rfl rfl (fun K hK => ?_); simp only [Act.put, List.setIfInBounds_toArray, List.set_cons_zero, List.set_cons_succ]; refine hK _ ?_; clear hK K
  refine st_skip rfl x20 rfl rfl (fun K hK => ?_); simp only [Act.put, List.setIfInBounds_toArray, List.set_cons_zero, List.set_cons_succ]; refine hK _ ?_; clear hK K
  refine st_plain rfl (fun K hK => ?_); go_simp; refine hK _ ?_; clear hK K
  refine st_plain rfl (fun K hK => ?_); go_simp; refine hK _ ?_; clear hK K
  refine st_skip rfl x25 rfl rfl (fun K hK => ?_); simp only [Act.put, List.setIfInBounds_toArray, List.set_cons_zero, List.set_cons_succ]; refine hK _ ?_; clear hK K
  refine st_skip rfl x25 rfl rfl (fun K hK => ?_); simp only [Act.put, List.setIfInBounds_toArray, List.set_cons_zero, List.set_cons_succ]; refine hK _ ?_; clear hK K
  refine st_skip rfl x25 rfl rfl (fun K hK => ?_); simp only [Act.put, List.setIfInBounds_toArray, List.set_cons_zero, List.set_cons_succ]; refine hK _ ?_; clear hK K
  refine st_skip rfl x28 rfl rfl (fun K hK => ?_); simp only [Act.put, List.setIfInBounds_toArray, List.set_cons_zero, List.set_cons_succ]; refine hK _ ?_; clear hK K
  refine st_skip rfl x28 rfl rfl (fun K hK => ?_); simp only [Act.put, List.setIfInBounds_toArray, List.set_cons_zero, List.set_cons_succ]; refine hK _ ?_; clear hK K
  refine st_skip rfl x28 rfl rfl (fun K hK => ?_); simp only [Act.put, List.setIfInBounds_toArray, List.set_cons_zero, List.set_cons_succ]; refine hK _ ?_; clear hK K
  refine st_skip rfl x28 rfl rfl (fun K hK => ?_); simp only [Act.put, List.setIfInBounds_toArray, List.set_cons_zero, List.set_cons_succ]; refine hK _ ?_; clear hK K
  refine st_skip rfl x28 rfl rfl (fun K hK => ?_); simp only [Act.put, List.setIfInBounds_toArray, List.set_cons_zero, List.set_cons_succ]; refine hK _ ?_; clear hK K
  refine st_skip rfl x28 rfl rfl (fun K hK => ?_); simp only [Act.put, List.setIfInBounds_toArray, List.set_cons_zero, List.set_cons_succ]; refine hK _ ?_; clear hK K
  refine st_skip rfl x28 rfl rfl (fun K hK => ?_); simp only [Act.put, List.setIfInBounds_toArray, List.set_cons_zero, List.set_cons_succ]; refine hK _ ?_; clear hK K
  refine st_skip rfl x28 rfl rfl (fun K hK => ?_); simp only [Act.put, List.setIfInBounds_toArray, List.set_cons_zero, List.set_cons_succ]; refine hK _ ?_; clear hK K
  refine st_skip rfl x28 rfl rfl (fun K hK => ?_); simp only [Act.put, List.setIfInBounds_toArray, List.set_cons_zero, List.set_cons_succ]; refine hK _ ?_; clear hK K
  refine st_skip rfl x25 rfl rfl (fun K hK => ?_); simp only [Act.put, List.setIfInBounds_toArray, List.set_cons_zero, List.set_cons_succ]; refine hK _ ?_; clear hK K
  refine wpStill_nil ?_
  go_wp2
  exact HGO.out _ _ _ _ _ _ _ _ _ _ _ _ _ _ _ _ _ _ _ _ _ _ _ _ _ _ _ _ _ _ _ _ _ _ _ _ _ _ _ _ rfl
set_option maxRecDepth 100000 in
set_option maxHeartbeats 8000000 in
theorem s6_3 {K : Exit → Act → World → Prop} {W : World} {Br b off ln cap i : Nat} {name typ x : ByteArray} {id : Int} {u1 u2 u3 u6 u7 u8 u9 u10 u11 u12 u13 u14 u15 u16 u17 u18 u19 u20 u21 u22 u23 u24 u25 u26 u27 u28 u29 u30 u31 u32 u33 u34 u35 u36 u37 u38 u39 u40 u41 u42 u43 u44 u45 u46 u47 u48 u49 u50 u51 u52 u53 u54 u55 u56 u57 u58 : Value}
    (y0 : W.cell? ⟨Br, 0, none⟩ = some (.string name)) (y1 : W.cell? ⟨Br, 1, none⟩ = some (.string typ)) (y2 : W.cell? ⟨Br, 2, none⟩ = some (.int .i64 id)) (e1 : name.toList.isEmpty = false) (d2 : ¬ (40 : Int) < (name.size : Int)) (d3 : (1000 : Int) < (typ.size : Int))
    (hgo : ∀ (v17 v18 v19 v20 v21 v22 v23 v24 v25 v26 v27 v28 v29 v30 v31 v32 v33 v34 v35 v36 v37 v38 v39 v40 v41 v42 v43 v44 v45 v46 v47 v48 v49 v50 v51 v52 v53 v54 v55 : Value) (B : Bool), B = true → K .normal { tmps := #[.slice (some ⟨b, off, none⟩) ln cap, u1, u2, u3, .int .i64 (i : Int), .pointer (some ⟨Br, 0, none⟩), u6, u7, u8, u9, u10, u11, u12, u13, u14, u15, u16, v17, v18, v19, v20, v21, v22, v23, v24, v25, v26, v27, v28, v29, v30, v31, v32, v33, v34, v35, v36, v37, v38, v39, v40, v41, v42, v43, v44, v45, v46, v47, v48, v49, v50, v51, v52, v53, v54, v55, .bool B, u57, u58], defers := [] } W.drew) :
    Code.wp Tryd.prog sreg6 K { tmps := #[.slice (some ⟨b, off, none⟩) ln cap, u1, u2, u3, .int .i64 (i : Int), .pointer (some ⟨Br, 0, none⟩), u6, u7, u8, u9, u10, u11, u12, u13, u14, u15, u16, u17, u18, u19, u20, u21, u22, u23, u24, u25, u26, u27, u28, u29, u30, u31, u32, u33, u34, u35, u36, u37, u38, u39, u40, u41, u42, u43, u44, u45, u46, u47, u48, u49, u50, u51, u52, u53, u54, u55, u56, u57, u58], defers := [] } W := by
  conv => arg 2; whnf
  refine still_abs 39 (by kernel_rfl) (by kernel_rfl) (fun X hX => ?_)
  have x3 := hX 3 20 rfl
  have x9 := hX 9 26 rfl
  have x15 := hX 15 32 rfl
  have x20 := hX 20 37 rfl
  have x25 := hX 25 42 rfl
  have x28 := hX 28 45 rfl
  clear hX
  have q2 := decide_eq_false d2
  have HGO := Lib.hid hgo
  clear hgo
  simp only [List.take_succ_cons, List.take_zero, List.drop_succ_cons, List.drop_zero]
  refine st_plain rfl (fun K hK => ?_); go_simp; refine hK _ ?_; clear hK K
  refine st_plain rfl (fun K hK => ?_); go_simp; refine hK _ ?_; clear hK K
  refine st_plain rfl (fun K hK => ?_); go_simp; refine hK _ ?_; clear hK K
  refine st_plain rfl (fun K hK => ?_); go_simp; refine hK _ ?_; clear hK K
  refine st_want rfl x3 rfl (fun K hK => ?_); go_simp; refine hK _ ?_; clear hK K
  refine st_want rfl x3 rfl (fun K hK => ?_); go_simp; refine hK _ ?_; clear hK K
  refine st_want rfl x3 rfl (fun K hK => ?_); go_simp; refine hK _ ?_; clear hK K
  refine st_want rfl x3 rfl (fun K hK => ?_); go_simp; refine hK _ ?_; clear hK K
  refine st_plain rfl (fun K hK => ?_); go_simp; refine hK _ ?_; clear hK K
  refine st_plain rfl (fun K hK => ?_); go_simp; refine hK _ ?_; clear hK K
  refine st_want rfl x9 rfl (fun K hK => ?_); go_simp; refine hK _ ?_; clear hK K
  refine st_want rfl x9 rfl (fun K hK => ?_); go_simp; refine hK _ ?_; clear hK K
  refine st_want rfl x9 rfl (fun K hK => ?_); go_simp; refine hK _ ?_; clear hK K
  refine st_want rfl x9 rfl (fun K hK => ?_); go_simp; refine hK _ ?_; clear hK K
  refine st_plain rfl (fun K hK => ?_); go_simp; refine hK _ ?_; clear hK K
  refine st_plain rfl (fun K hK => ?_); go_simp; refine hK _ ?_; clear hK K
  refine st_skip rfl x15 rfl rfl (fun K hK => ?_); simp only [Act.put, List.setIfInBounds_toArray, List.set_cons_zero, List.set_cons_succ]; refine hK _ ?_; clear hK K
  refine st_skip rfl x15 rfl rfl (fun K hK => ?_); simp only [Act.put, List.setIfInBounds_toArray, List.set_cons_zero, List.set_cons_succ]; refine hK _ ?_; clear hK K
  refine st_skip rfl x15 rfl rfl (fun K hK => ?_); simp only [Act.put, List.setIfInBounds_toArray, List.set_cons_zero, List.set_cons_succ]; refine hK _ ?_; clear hK K
  refine st_plain rfl (fun K hK => ?_); go_simp; refine hK _ ?_; clear hK K
  refine st_plain rfl (fun K hK => ?_); go_simp; refine hK _ ?_; clear hK K
  refine st_skip rfl x20 rfl rfl (fun K hK => ?_); simp only [Act.put, List.setIfInBounds_toArray, List.set_cons_zero, List.set_cons_succ]; refine hK _ ?_; clear hK K
  refine st_skip rfl x20 rfl rfl (fun K hK => ?_); simp only [Act.put, List.setIfInBounds_toArray, List.set_cons_zero, List.set_cons_succ]; refine hK _ ?_; clear hK K
  refine st_skip rfl x20 rfl rfl (fun K hK => ?_); simp only [Act.put, List.setIfInBounds_toArray, List.set_cons_zero, List.set_cons_succ]; refine hK _ ?_; clear hK K
  refine st_plain rfl (fun K hK => ?_); go_simp; refine hK _ ?_; clear hK K
  refine st_plain rfl (fun K hK => ?_); go_simp; refine hK _ ?_; clear hK K
  refine st_skip rfl x25 rfl rfl (fun K hK => ?_); simp only [Act.put, List.setIfInBounds_toArray, List.set_cons_zero, List.set_cons_succ]; refine hK _ ?_; clear hK K
  refine st_skip rfl x25 rfl rfl (fun K hK => ?_); simp only [Act.put, List.setIfInBounds_toArray, List.set_cons_zero, List.set_cons_succ]; refine hK _ ?_; clear hK K
  refine st_skip rfl x25 rfl rfl (fun K hK => ?_); simp only [Act.put, List.setIfInBounds_toArray, List.set_cons_zero, List.set_cons_succ]; refine hK _ ?_; clear hK K
  refine st_skip rfl x28 rfl rfl (fun K hK => ?_); simp only [Act.put, List.setIfInBounds_toArray, List.set_cons_zero, List.set_cons_succ]; refine hK _ ?_; clear hK K
  refine st_skip rfl x28 rfl rfl (fun K hK => ?_); simp only [Act.put, List.setIfInBounds_toArray, List.set_cons_zero, List.set_cons_succ]; refine hK _ ?_; clear hK K
  refine st_skip rfl x28 rfl rfl (fun K hK => ?_); simp only [Act.put, List.setIfInBounds_toArray, List.set_cons_zero, List.set_cons_succ]; refine hK _ ?_; clear hK K
  refine st_skip rfl x28 rfl rfl (fun K hK => ?_); simp only [Act.put, List.setIfInBounds_toArray, List.set_cons_zero, List.set_cons_succ]; refine hK _ ?_; clear hK K
  refine st_skip rfl x28 rfl rfl (fun K hK => ?_); simp only [Act.put, List.setIfInBounds_toArray, List.set_cons_zero, List.set_cons_succ]; refine hK _ ?_; clear hK K
  refine st_skip rfl x28 rfl rfl (fun K hK => ?_); simp only [Act.put, List.setIfInBounds_toArray, List.set_cons_zero, List.set_cons_succ]; refine hK _ ?_; clear hK K
  refine st_skip rfl x28 rfl rfl (fun K hK => ?_); simp only [Act.put, List.setIfInBounds_toArray, List.set_cons_zero, List.set_cons_succ]; refine hK _ ?_; clear hK K
  refine st_skip rfl x28 rfl rfl (fun K hK => ?_); simp only [Act.put, List.setIfInBounds_toArray, List.set_cons_zero, List.set_cons_succ]; refine hK _ ?_; clear hK K
  refine st_skip rfl x28 rfl rfl (fun K hK => ?_); simp only [Act.put, List.setIfInBounds_toArray, List.set_cons_zero, List.set_cons_succ]; refine hK _ ?_; clear hK K
  refine st_skip rfl x25 rfl rfl (fun K hK => ?_); simp only [Act.put, List.setIfInBounds_toArray, List.set_cons_zero, List.set_cons_succ]; refine hK _ ?_; clear hK K
  refine wpStill_nil ?_
  go_wp2
  exact HGO.out _ _ _ _ _ _ _ _ _ _ _ _ _ _ _ _ _ _ _ _ _ _ _ _ _ _ _ _ _ _ _ _ _ _ _ _ _ _ _ _ rfl
set_option maxRecDepth 100000 in
set_option maxHeartbeats 8000000 in
theorem s6_4 {K : Exit → Act → World → Prop} {W : World} {Br b off ln cap i : Nat} {name typ x : ByteArray} {id : Int} {u1 u2 u3 u6 u7 u8 u9 u10 u11 u12 u13 u14 u15 u16 u17 u18 u19 u20 u21 u22 u23 u24 u25 u26 u27 u28 u29 u30 u31 u32 u33 u34 u35 u36 u37 u38 u39 u40 u41 u42 u43 u44 u45 u46 u47 u48 u49 u50 u51 u52 u53 u54 u55 u56 u57 u58 : Value}
    (y0 : W.cell? ⟨Br, 0, none⟩ = some (.string name)) (y1 : W.cell? ⟨Br, 1, none⟩ = some (.string typ)) (y2 : W.cell? ⟨Br, 2, none⟩ = some (.int .i64 id)) (e1 : name.toList.isEmpty = false) (d2 : ¬ (40 : Int) < (name.size : Int)) (d3 : ¬ (1000 : Int) < (typ.size : Int)) (d4 : id < 1)
    (hgo : ∀ (v17 v18 v19 v20 v21 v22 v23 v24 v25 v26 v27 v28 v29 v30 v31 v32 v33 v34 v35 v36 v37 v38 v39 v40 v41 v42 v43 v44 v45 v46 v47 v48 v49 v50 v51 v52 v53 v54 v55 : Value) (B : Bool), B = true → K .normal { tmps := #[.slice (some ⟨b, off, none⟩) ln cap, u1, u2, u3, .int .i64 (i : Int), .pointer (some ⟨Br, 0, none⟩), u6, u7, u8, u9, u10, u11, u12, u13, u14, u15, u16, v17, v18, v19, v20, v21, v22, v23, v24, v25, v26, v27, v28, v29, v30, v31, v32, v33, v34, v35, v36, v37, v38, v39, v40, v41, v42, v43, v44, v45, v46, v47, v48, v49, v50, v51, v52, v53, v54, v55, .bool B, u57, u58], defers := [] } W.drew) :
    Code.wp Tryd.prog sreg6 K { tmps := #[.slice (some ⟨b, off, none⟩) ln cap, u1, u2, u3, .int .i64 (i : Int), .pointer (some ⟨Br, 0, none⟩), u6, u7, u8, u9, u10, u11, u12, u13, u14, u15, u16, u17, u18, u19, u20, u21, u22, u23, u24, u25, u26, u27, u28, u29, u30, u31, u32, u33, u34, u35, u36, u37, u38, u39, u40, u41, u42, u43, u44, u45, u46, u47, u48, u49, u50, u51, u52, u53, u54, u55, u56, u57, u58], defers := [] } W := by
  conv => arg 2; whnf
  refine still_abs 39 (by kernel_rfl) (by kernel_rfl) (fun X hX => ?_)
  have x3 := hX 3 20 rfl
  have x9 := hX 9 26 rfl
  have x15 := hX 15 32 rfl
  have x20 := hX 20 37 rfl
  have x25 := hX 25 42 rfl
  have x28 := hX 28 45 rfl
  clear hX
  have q2 := decide_eq_false d2
  have q3 := decide_eq_false d3
  have HGO := Lib.hid hgo
  clear hgo
  simp only [List.take_succ_cons, List.take_zero, List.drop_succ_cons, List.drop_zero]
  refine st_plain rfl (fun K hK => ?_); go_simp; refine hK _ ?_; clear hK K
  refine st_plain rfl (fun K hK => ?_); go_simp; refine hK _ ?_; clear hK K
  refine st_plain rfl (fun K hK => ?_); go_simp; refine hK _ ?_; clear hK K
  refine st_plain rfl (fun K hK => ?_); go_simp; refine hK _ ?_; clear hK K
  refine st_want rfl x3 rfl (fun K hK => ?_); go_simp; refine hK _ ?_; clear hK K
  refine st_want rfl x3 rfl (fun K hK => ?_); go_simp; refine hK _ ?_; clear hK K
  refine st_want rfl x3 rfl (fun K hK => ?_); go_simp; refine hK _ ?_; clear hK K
  refine st_want rfl x3 rfl (fun K hK => ?_); go_simp; refine hK _ ?_; clear hK K
  refine st_plain rfl (fun K hK => ?_); go_simp; refine hK _ ?_; clear hK K
  refine st_plain rfl (fun K hK => ?_); go_simp; refine hK _ ?_; clear hK K
  refine st_want rfl x9 rfl (fun K hK => ?_); go_simp; refine hK _ ?_; clear hK K
  refine st_want rfl x9 rfl (fun K hK => ?_); go_simp; refine hK _ ?_; clear hK K
  refine st_want rfl x9 rfl (fun K hK => ?_); go_simp; refine hK _ ?_; clear hK K
  refine st_want rfl x9 rfl (fun K hK => ?_); go_simp; refine hK _ ?_; clear hK K
  refine st_plain rfl (fun K hK => ?_); go_simp; refine hK _ ?_; clear hK K
  refine st_plain rfl (fun K hK => ?_); go_simp; refine hK _ ?_; clear hK K
  refine st_want rfl x15 rfl (fun K hK => ?_); go_simp; refine hK _ ?_; clear hK K
  refine st_want rfl x15 rfl (fun K hK => ?_); go_simp; refine hK _ ?_; clear hK K
  refine st_want rfl x15 rfl (fun K hK => ?_); go_simp; refine hK _ ?_; clear hK K
  refine st_plain rfl (fun K hK => ?_); go_simp; refine hK _ ?_; clear hK K
  refine st_plain rfl (fun K hK => ?_); go_simp; refine hK _ ?_; clear hK K
  refine st_skip rfl x20 rfl rfl (fun K hK => ?_); simp only [Act.put, List.setIfInBounds_toArray, List.set_cons_zero, List.set_cons_succ]; refine hK _ ?_; clear hK K
  refine st_skip rfl x20 rfl rfl (fun K hK => ?_); simp only [Act.put, List.setIfInBounds_toArray, List.set_cons_zero, List.set_cons_succ]; refine hK _ ?_; clear hK K
  refine st_skip rfl x20 rfl rfl (fun K hK => ?_); simp only [Act.put, List.setIfInBounds_toArray, List.set_cons_zero, List.set_cons_succ]; refine hK _ ?_; clear hK K
  refine st_plain rfl (fun K hK => ?_); go_simp; refine hK _ ?_; clear hK K
  refine st_plain rfl (fun K hK => ?_); go_simp; refine hK _ ?_; clear hK K
  refine st_skip rfl x25 rfl rfl (fun K hK => ?_); simp only [Act.put, List.setIfInBounds_toArray, List.set_cons_zero, List.set_cons_succ]; refine hK _ ?_; clear hK K
  refine st_skip rfl x25 rfl rfl (fun K hK => ?_); simp only [Act.put, List.setIfInBounds_toArray, List.set_cons_zero, List.set_cons_succ]; refine hK _ ?_; clear hK K
  refine st_skip rfl x25 rfl rfl (fun K hK => ?_); simp only [Act.put, List.setIfInBounds_toArray, List.set_cons_zero, List.set_cons_succ]; refine hK _ ?_; clear hK K
  refine st_skip rfl x28 rfl rfl (fun K hK => ?_); simp only [Act.put, List.setIfInBounds_toArray, List.set_cons_zero, List.set_cons_succ]; refine hK _ ?_; clear hK K
  refine st_skip rfl x28 rfl rfl (fun K hK => ?_); simp only [Act.put, List.setIfInBounds_toArray, List.set_cons_zero, List.set_cons_succ]; refine hK _ ?_; clear hK K
  refine st_skip rfl x28 rfl rfl (fun K hK => ?_); simp only [Act.put, List.setIfInBounds_toArray, List.set_cons_zero, List.set_cons_succ]; refine hK _ ?_; clear hK K
  refine st_skip rfl x28 rfl rfl (fun K hK => ?_); simp only [Act.put, List.setIfInBounds_toArray, List.set_cons_zero, List.set_cons_succ]; refine hK _ ?_; clear hK K
  refine st_skip rfl x28 rfl rfl (fun K hK => ?_); simp only [Act.put, List.setIfInBounds_toArray, List.set_cons_zero, List.set_cons_succ]; refine hK _ ?_; clear hK K
  refine st_skip rfl x28 rfl rfl (fun K hK => ?_); simp only [Act.put, List.setIfInBounds_toArray, List.set_cons_zero, List.set_cons_succ]; refine hK _ ?_; clear hK K
  refine st_skip rfl x28 rfl rfl (fun K hK => ?_); simp only [Act.put, List.setIfInBounds_toArray, List.set_cons_zero, List.set_cons_succ]; refine hK _ ?_; clear hK K
  refine st_skip rfl x28 rfl rfl (fun K hK => ?_); simp only [Act.put, List.setIfInBounds_toArray, List.set_cons_zero, List.set_cons_succ]; refine hK _ ?_; clear hK K
  refine st_skip rfl x28 rfl rfl (fun K hK => ?_); simp only [Act.put, List.setIfInBounds_toArray, List.set_cons_zero, List.set_cons_succ]; refine hK _ ?_; clear hK K
  refine st_skip rfl x25 rfl rfl (fun K hK => ?_); simp only [Act.put, List.setIfInBounds_toArray, List.set_cons_zero, List.set_cons_succ]; refine hK _ ?_; clear hK K
  refine wpStill_nil ?_
  go_wp2
  exact HGO.out _ _ _ _ _ _ _ _ _ _ _ _ _ _ _ _ _ _ _ _ _ _ _ _ _ _ _ _ _ _ _ _ _ _ _ _ _ _ _ _ rfl
set_option maxRecDepth 100000 in
set_option maxHeartbeats 8000000 in
theorem s6_5 {K : Exit → Act → World → Prop} {W : World} {Br b off ln cap i : Nat} {name typ x : ByteArray} {id : Int} {u1 u2 u3 u6 u7 u8 u9 u10 u11 u12 u13 u14 u15 u16 u17 u18 u19 u20 u21 u22 u23 u24 u25 u26 u27 u28 u29 u30 u31 u32 u33 u34 u35 u36 u37 u38 u39 u40 u41 u42 u43 u44 u45 u46 u47 u48 u49 u50 u51 u52 u53 u54 u55 u56 u57 u58 : Value}
    (y0 : W.cell? ⟨Br, 0, none⟩ = some (.string name)) (y1 : W.cell? ⟨Br, 1, none⟩ = some (.string typ)) (y2 : W.cell? ⟨Br, 2, none⟩ = some (.int .i64 id)) (e1 : name.toList.isEmpty = false) (d2 : ¬ (40 : Int) < (name.size : Int)) (d3 : ¬ (1000 : Int) < (typ.size : Int)) (d4 : ¬ id < 1) (d5 : 1099511627776 < id)
    (hgo : ∀ (v17 v18 v19 v20 v21 v22 v23 v24 v25 v26 v27 v28 v29 v30 v31 v32 v33 v34 v35 v36 v37 v38 v39 v40 v41 v42 v43 v44 v45 v46 v47 v48 v49 v50 v51 v52 v53 v54 v55 : Value) (B : Bool), B = true → K .normal { tmps := #[.slice (some ⟨b, off, none⟩) ln cap, u1, u2, u3, .int .i64 (i : Int), .pointer (some ⟨Br, 0, none⟩), u6, u7, u8, u9, u10, u11, u12, u13, u14, u15, u16, v17, v18, v19, v20, v21, v22, v23, v24, v25, v26, v27, v28, v29, v30, v31, v32, v33, v34, v35, v36, v37, v38, v39, v40, v41, v42, v43, v44, v45, v46, v47, v48, v49, v50, v51, v52, v53, v54, v55, .bool B, u57, u58], defers := [] } W.drew) :
    Code.wp Tryd.prog sreg6 K { tmps := #[.slice (some ⟨b, off, none⟩) ln cap, u1, u2, u3, .int .i64 (i : Int), .pointer (some ⟨Br, 0, none⟩), u6, u7, u8, u9, u10, u11, u12, u13, u14, u15, u16, u17, u18, u19, u20, u21, u22, u23, u24, u25, u26, u27, u28, u29, u30, u31, u32, u33, u34, u35, u36, u37, u38, u39, u40, u41, u42, u43, u44, u45, u46, u47, u48, u49, u50, u51, u52, u53, u54, u55, u56, u57, u58], defers := [] } W := by
  conv => arg 2; whnf
  refine still_abs 39 (by kernel_rfl) (by kernel_rfl) (fun X hX => ?_)
  have x3 := hX 3 20 rfl
  have x9 := hX 9 26 rfl
  have x15 := hX 15 32 rfl
  have x20 := hX 20 37 rfl
  have x25 := hX 25 42 rfl
  have x28 := hX 28 45 rfl
  clear hX
  have q2 := decide_eq_false d2
  have q3 := decide_eq_false d3
  have q4 := decide_eq_false d4
  have HGO := Lib.hid hgo
  clear hgo
  simp only [List.take_succ_cons, List.take_zero, List.drop_succ_cons, List.drop_zero]
  refine st_plain rfl (fun K hK => ?_); go_simp; refine hK _ ?_; clear hK K
  refine st_plain rfl (fun K hK => ?_); go_simp; refine hK _ ?_; clear hK K
  refine st_plain rfl (fun K hK => ?_); go_simp; refine hK _ ?_; clear hK K
  refine st_plain rfl (fun K hK => ?_); go_simp; refine hK _ ?_; clear hK K
  refine st_want rfl x3 rfl (fun K hK => ?_); go_simp; refine hK _ ?_; clear hK K
  refine st_want rfl x3 rfl (fun K hK => ?_); go_simp; refine hK _ ?_; clear hK K
  refine st_want rfl x3 rfl (fun K hK => ?_); go_simp; refine hK _ ?_; clear hK K
  refine st_want rfl x3 rfl (fun K hK => ?_); go_simp; refine hK _ ?_; clear hK K
  refine st_plain rfl (fun K hK => ?_); go_simp; refine hK _ ?_; clear hK K
  refine st_plain rfl (fun K hK => ?_); go_simp; refine hK _ ?_; clear hK K
  refine st_want rfl x9 rfl (fun K hK => ?_); go_simp; refine hK _ ?_; clear hK K
  refine st_want rfl x9 rfl (fun K hK => ?_); go_simp; refine hK _ ?_; clear hK K
  refine st_want rfl x9 rfl (fun K hK => ?_); go_simp; refine hK _ ?_; clear hK K
  refine st_want rfl x9 rfl (fun K hK => ?_); go_simp; refine hK _ ?_; clear hK K
  refine st_plain rfl (fun K hK => ?_); go_simp; refine hK _ ?_; clear hK K
  refine st_plain rfl (fun K hK => ?_); go_simp; refine hK _ ?_; clear hK K
  refine st_want rfl x15 rfl (fun K hK => ?_); go_simp; refine hK _ ?_; clear hK K
  refine st_want rfl x15 rfl (fun K hK => ?_); go_simp; refine hK _ ?_; clear hK K
  refine st_want rfl x15 rfl (fun K hK => ?_); go_simp; refine hK _ ?_; clear hK K
  refine st_plain rfl (fun K hK => ?_); go_simp; refine hK _ ?_; clear hK K
  refine st_plain rfl (fun K hK => ?_); go_simp; refine hK _ ?_; clear hK K
  refine st_want rfl x20 rfl (fun K hK => ?_); go_simp; refine hK _ ?_; clear hK K
  refine st_want rfl x20 rfl (fun K hK => ?_); go_simp; refine hK _ ?_; clear hK K
  refine st_want rfl x20 rfl (fun K hK => ?_); go_simp; refine hK _ ?_; clear hK K
  refine st_plain rfl (fun K hK => ?_); go_simp; refine hK _ ?_; clear hK K
  refine st_plain rfl (fun K hK => ?_); go_simp; refine hK _ ?_; clear hK K
  refine st_skip rfl x25 rfl rfl (fun K hK => ?_); simp only [Act.put, List.setIfInBounds_toArray, List.set_cons_zero, List.set_cons_succ]; refine hK _ ?_; clear hK K
  refine st_skip rfl x25 rfl rfl (fun K hK => ?_); simp only [Act.put, List.setIfInBounds_toArray, List.set_cons_zero, List.set_cons_succ]; refine hK _ ?_; clear hK K
  refine st_skip rfl x25 rfl rfl (fun K hK => ?_); simp only [Act.put, List.setIfInBounds_toArray, List.set_cons_zero, List.set_cons_succ]; refine hK _ ?_; clear hK K
  refine st_skip rfl x28 rfl rfl (fun K hK => ?_); simp only [Act.put, List.setIfInBounds_toArray, List.set_cons_zero, List.set_cons_succ]; refine hK _ ?_; clear hK K
  refine st_skip rfl x28 rfl rfl (fun K hK => ?_); simp only [Act.put, List.setIfInBounds_toArray, List.set_cons_zero, List.set_cons_succ]; refine hK _ ?_; clear hK K
  refine st_skip rfl x28 rfl rfl (fun K hK => ?_); simp only [Act.put, List.setIfInBounds_toArray, List.set_cons_zero, List.set_cons_succ]; refine hK _ ?_; clear hK K
  refine st_skip rfl x28 rfl rfl (fun K hK => ?_); simp only [Act.put, List.setIfInBounds_toArray, List.set_cons_zero, List.set_cons_succ]; refine hK _ ?_; clear hK K
  refine st_skip rfl x28 rfl rfl (fun K hK => ?_); simp only [Act.put, List.setIfInBounds_toArray, List.set_cons_zero, List.set_cons_succ]; refine hK _ ?_; clear hK K
  refine st_skip rfl x28 rfl rfl (fun K hK => ?_); simp only [Act.put, List.setIfInBounds_toArray, List.set_cons_zero, List.set_cons_succ]; refine hK _ ?_; clear hK K
  refine st_skip rfl x28 rfl rfl (fun K hK => ?_); simp only [Act.put, List.setIfInBounds_toArray, List.set_cons_zero, List.set_cons_succ]; refine hK _ ?_; clear hK K
  refine st_skip rfl x28 rfl rfl (fun K hK => ?_); simp only [Act.put, List.setIfInBounds_toArray, List.set_cons_zero, List.set_cons_succ]; refine hK _ ?_; clear hK K
  refine st_skip rfl x28 rfl rfl (fun K hK => ?_); simp only [Act.put, List.setIfInBounds_toArray, List.set_cons_zero, List.set_cons_succ]; refine hK _ ?_; clear hK K
  refine st_skip rfl x25 rfl rfl (fun K hK => ?_); simp only [Act.put, List.setIfInBounds_toArray, List.set_cons_zero, List.set_cons_succ]; refine hK _ ?_; clear hK K
  refine wpStill_nil ?_
  go_wp2
  exact HGO.out _ _ _ _ _ _ _ _ _ _ _ _ _ _ _ _ _ _ _ _ _ _ _ _ _ _ _ _ _ _ _ _ _ _ _ _ _ _ _ _ rfl
set_option maxRecDepth 100000 in
set_option maxHeartbeats 8000000 in
theorem s6_6 {K : Exit → Act → World → Prop} {W : World} {Br b off ln cap i : Nat} {name typ x : ByteArray} {id : Int} {u1 u2 u3 u6 u7 u8 u9 u10 u11 u12 u13 u14 u15 u16 u17 u18 u19 u20 u21 u22 u23 u24 u25 u26 u27 u28 u29 u30 u31 u32 u33 u34 u35 u36 u37 u38 u39 u40 u41 u42 u43 u44 u45 u46 u47 u48 u49 u50 u51 u52 u53 u54 u55 u56 u57 u58 : Value}
    (y0 : W.cell? ⟨Br, 0, none⟩ = some (.string name)) (y1 : W.cell? ⟨Br, 1, none⟩ = some (.string typ)) (y2 : W.cell? ⟨Br, 2, none⟩ = some (.int .i64 id)) (e1 : name.toList.isEmpty = false) (d2 : ¬ (40 : Int) < (name.size : Int)) (d3 : ¬ (1000 : Int) < (typ.size : Int)) (d4 : ¬ id < 1) (d5 : ¬ 1099511627776 < id) (d6 : ¬ (0 : Int) < (i : Int))
    (hgo : ∀ (v17 v18 v19 v20 v21 v22 v23 v24 v25 v26 v27 v28 v29 v30 v31 v32 v33 v34 v35 v36 v37 v38 v39 v40 v41 v42 v43 v44 v45 v46 v47 v48 v49 v50 v51 v52 v53 v54 v55 : Value) (B : Bool), B = false → K .normal { tmps := #[.slice (some ⟨b, off, none⟩) ln cap, u1, u2, u3, .int .i64 (i : Int), .pointer (some ⟨Br, 0, none⟩), u6, u7, u8, u9, u10, u11, u12, u13, u14, u15, u16, v17, v18, v19, v20, v21, v22, v23, v24, v25, v26, v27, v28, v29, v30, v31, v32, v33, v34, v35, v36, v37, v38, v39, v40, v41, v42, v43, v44, v45, v46, v47, v48, v49, v50, v51, v52, v53, v54, v55, .bool B, u57, u58], defers := [] } W.drew) :
    Code.wp Tryd.prog sreg6 K { tmps := #[.slice (some ⟨b, off, none⟩) ln cap, u1, u2, u3, .int .i64 (i : Int), .pointer (some ⟨Br, 0, none⟩), u6, u7, u8, u9, u10, u11, u12, u13, u14, u15, u16, u17, u18, u19, u20, u21, u22, u23, u24, u25, u26, u27, u28, u29, u30, u31, u32, u33, u34, u35, u36, u37, u38, u39, u40, u41, u42, u43, u44, u45, u46, u47, u48, u49, u50, u51, u52, u53, u54, u55, u56, u57, u58], defers := [] } W := by
  conv => arg 2; whnf
  refine still_abs 39 (by kernel_rfl) (by kernel_rfl) (fun X hX => ?_)
  have x3 := hX 3 20 rfl
  have x9 := hX 9 26 rfl
  have x15 := hX 15 32 rfl
  have x20 := hX 20 37 rfl
  have x25 := hX 25 42 rfl
  have x28 := hX 28 45 rfl
  clear hX
  have q2 := decide_eq_false d2
  have q3 := decide_eq_false d3
  have q4 := decide_eq_false d4
  have q5 := decide_eq_false d5
  have d6n : ¬ 0 < i := by omega
  have q6 := decide_eq_false d6
  have q6n := decide_eq_false d6n
  have HGO := Lib.hid hgo
  clear hgo
  simp only [List.take_succ_cons, List.take_zero, List.drop_succ_cons, List.drop_zero]
  refine st_plain rfl (fun K hK => ?_); go_simp; refine hK _ ?_; clear hK K
  refine st_plain rfl (fun K hK => ?_); go_simp; refine hK _ ?_; clear hK K
  refine st_plain rfl (fun K hK => ?_); go_simp; refine hK _ ?_; clear hK K
  refine st_plain rfl (fun K hK => ?_); go_simp; refine hK _ ?_; clear hK K
  refine st_want rfl x3 rfl (fun K hK => ?_); go_simp; refine hK _ ?_; clear hK K
  refine st_want rfl x3 rfl (fun K hK => ?_); go_simp; refine hK _ ?_; clear hK K
  refine st_want rfl x3 rfl (fun K hK => ?_); go_simp; refine hK _ ?_; clear hK K
  refine st_want rfl x3 rfl (fun K hK => ?_); go_simp; refine hK _ ?_; clear hK K
  refine st_plain rfl (fun K hK => ?_); go_simp; refine hK _ ?_; clear hK K
  refine st_plain rfl (fun K hK => ?_); go_simp; refine hK _ ?_; clear hK K
  refine st_want rfl x9 rfl (fun K hK => ?_); go_simp; refine hK _ ?_; clear hK K
  refine st_want rfl x9 rfl (fun K hK => ?_); go_simp; refine hK _ ?_; clear hK K
  refine st_want rfl x9 rfl (fun K hK => ?_); go_simp; refine hK _ ?_; clear hK K
  refine st_want rfl x9 rfl (fun K hK => ?_); go_simp; refine hK _ ?_; clear hK K
  refine st_plain rfl (fun K hK => ?_); go_simp; refine hK _ ?_; clear hK K
  refine st_plain rfl (fun K hK => ?_); go_simp; refine hK _ ?_; clear hK K
  refine st_want rfl x15 rfl (fun K hK => ?_); go_simp; refine hK _ ?_; clear hK K
  refine st_want rfl x15 rfl (fun K hK => ?_); go_simp; refine hK _ ?_; clear hK K
  refine st_want rfl x15 rfl (fun K hK => ?_); go_simp; refine hK _ ?_; clear hK K
  refine st_plain rfl (fun K hK => ?_); go_simp; refine hK _ ?_; clear hK K
  refine st_plain rfl (fun K hK => ?_); go_simp; refine hK _ ?_; clear hK K
  refine st_want rfl x20 rfl (fun K hK => ?_); go_simp; refine hK _ ?_; clear hK K
  refine st_want rfl x20 rfl (fun K hK => ?_); go_simp; refine hK _ ?_; clear hK K
  refine st_want rfl x20 rfl (fun K hK => ?_); go_simp; refine hK _ ?_; clear hK K
  refine st_plain rfl (fun K hK => ?_); go_simp; refine hK _ ?_; clear hK K
  refine st_plain rfl (fun K hK => ?_); go_simp; refine hK _ ?_; clear hK K
  refine st_want rfl x25 rfl (fun K hK => ?_); go_simp; refine hK _ ?_; clear hK K
  refine st_want rfl x25 rfl (fun K hK => ?_); go_simp; refine hK _ ?_; clear hK K
  refine st_want rfl x25 rfl (fun K hK => ?_); go_simp; refine hK _ ?_; clear hK K
  refine st_skip rfl x28 rfl rfl (fun K hK => ?_); simp only [Act.put, List.setIfInBounds_toArray, List.set_cons_zero, List.set_cons_succ]; refine hK _ ?_; clear hK K
  refine st_skip rfl x28 rfl rfl (fun K hK => ?_); simp only [Act.put, List.setIfInBounds_toArray, List.set_cons_zero, List.set_cons_succ]; refine hK _ ?_; clear hK K
  refine st_skip rfl x28 rfl rfl (fun K hK => ?_); simp only [Act.put, List.setIfInBounds_toArray, List.set_cons_zero, List.set_cons_succ]; refine hK _ ?_; clear hK K
  refine st_skip rfl x28 rfl rfl (fun K hK => ?_); simp only [Act.put, List.setIfInBounds_toArray, List.set_cons_zero, List.set_cons_succ]; refine hK _ ?_; clear hK K
  refine st_skip rfl x28 rfl rfl (fun K hK => ?_); simp only [Act.put, List.setIfInBounds_toArray, List.set_cons_zero, List.set_cons_succ]; refine hK _ ?_; clear hK K
  refine st_skip rfl x28 rfl rfl (fun K hK => ?_); simp only [Act.put, List.setIfInBounds_toArray, List.set_cons_zero, List.set_cons_succ]; refine hK _ ?_; clear hK K
  refine st_skip rfl x28 rfl rfl (fun K hK => ?_); simp only [Act.put, List.setIfInBounds_toArray, List.set_cons_zero, List.set_cons_succ]; refine hK _ ?_; clear hK K
  refine st_skip rfl x28 rfl rfl (fun K hK => ?_); simp only [Act.put, List.setIfInBounds_toArray, List.set_cons_zero, List.set_cons_succ]; refine hK _ ?_; clear hK K
  refine st_skip rfl x28 rfl rfl (fun K hK => ?_); simp only [Act.put, List.setIfInBounds_toArray, List.set_cons_zero, List.set_cons_succ]; refine hK _ ?_; clear hK K
  refine st_want rfl x25 rfl (fun K hK => ?_); go_simp; refine hK _ ?_; clear hK K
  refine wpStill_nil ?_
  go_wp2
  exact HGO.out _ _ _ _ _ _ _ _ _ _ _ _ _ _ _ _ _ _ _ _ _ _ _ _ _ _ _ _ _ _ _ _ _ _ _ _ _ _ _ _ rfl
set_option maxRecDepth 100000 in
set_option maxHeartbeats 8000000 in
theorem s6_7 {K : Exit → Act → World → Prop} {W : World} {Br b off ln cap i : Nat} {name typ x : ByteArray} {id : Int} {u1 u2 u3 u6 u7 u8 u9 u10 u11 u12 u13 u14 u15 u16 u17 u18 u19 u20 u21 u22 u23 u24 u25 u26 u27 u28 u29 u30 u31 u32 u33 u34 u35 u36 u37 u38 u39 u40 u41 u42 u43 u44 u45 u46 u47 u48 u49 u50 u51 u52 u53 u54 u55 u56 u57 u58 : Value}
    (y0 : W.cell? ⟨Br, 0, none⟩ = some (.string name)) (y1 : W.cell? ⟨Br, 1, none⟩ = some (.string typ)) (y2 : W.cell? ⟨Br, 2, none⟩ = some (.int .i64 id)) (e1 : name.toList.isEmpty = false) (d2 : ¬ (40 : Int) < (name.size : Int)) (d3 : ¬ (1000 : Int) < (typ.size : Int)) (d4 : ¬ id < 1) (d5 : ¬ 1099511627776 < id) {j : Nat} (d6 : (0 : Int) < (i : Int)) (d7 : (i : Int) - 1 = (j : Int)) (j0 : (0 : Int) ≤ (j : Int)) (j1 : (j : Int) < (ln : Int)) (hx : W.cell? ⟨b, off + j * 3, none⟩ = some (.string x)) (hcap : ln ≤ 1000000) (e7 : (name.toList == x.toList) = true)
    (hgo : ∀ (v17 v18 v19 v20 v21 v22 v23 v24 v25 v26 v27 v28 v29 v30 v31 v32 v33 v34 v35 v36 v37 v38 v39 v40 v41 v42 v43 v44 v45 v46 v47 v48 v49 v50 v51 v52 v53 v54 v55 : Value) (B : Bool), B = true → K .normal { tmps := #[.slice (some ⟨b, off, none⟩) ln cap, u1, u2, u3, .int .i64 (i : Int), .pointer (some ⟨Br, 0, none⟩), u6, u7, u8, u9, u10, u11, u12, u13, u14, u15, u16, v17, v18, v19, v20, v21, v22, v23, v24, v25, v26, v27, v28, v29, v30, v31, v32, v33, v34, v35, v36, v37, v38, v39, v40, v41, v42, v43, v44, v45, v46, v47, v48, v49, v50, v51, v52, v53, v54, v55, .bool B, u57, u58], defers := [] } W.drew) :
    Code.wp Tryd.prog sreg6 K { tmps := #[.slice (some ⟨b, off, none⟩) ln cap, u1, u2, u3, .int .i64 (i : Int), .pointer (some ⟨Br, 0, none⟩), u6, u7, u8, u9, u10, u11, u12, u13, u14, u15, u16, u17, u18, u19, u20, u21, u22, u23, u24, u25, u26, u27, u28, u29, u30, u31, u32, u33, u34, u35, u36, u37, u38, u39, u40, u41, u42, u43, u44, u45, u46, u47, u48, u49, u50, u51, u52, u53, u54, u55, u56, u57, u58], defers := [] } W := by
  conv => arg 2; whnf
  refine still_abs 39 (by kernel_rfl) (by kernel_rfl) (fun X hX => ?_)
  have x3 := hX 3 20 rfl
  have x9 := hX 9 26 rfl
  have x15 := hX 15 32 rfl
  have x20 := hX 20 37 rfl
  have x25 := hX 25 42 rfl
  have x28 := hX 28 45 rfl
  clear hX
  have q2 := decide_eq_false d2
  have q3 := decide_eq_false d3
  have q4 := decide_eq_false d4
  have q5 := decide_eq_false d5
  have d6n : 0 < i := by omega
  have jw : IntKind.i64.wrap (j : Int) = (j : Int) := by rw [IntKind.wrap_i64]; omega
  have HGO := Lib.hid hgo
  clear hgo
  simp only [List.take_succ_cons, List.take_zero, List.drop_succ_cons, List.drop_zero]
  refine st_plain rfl (fun K hK => ?_); go_simp; refine hK _ ?_; clear hK K
  refine st_plain rfl (fun K hK => ?_); go_simp; refine hK _ ?_; clear hK K
  refine st_plain rfl (fun K hK => ?_); go_simp; refine hK _ ?_; clear hK K
  refine st_plain rfl (fun K hK => ?_); go_simp; refine hK _ ?_; clear hK K
  refine st_want rfl x3 rfl (fun K hK => ?_); go_simp; refine hK _ ?_; clear hK K
  refine st_want rfl x3 rfl (fun K hK => ?_); go_simp; refine hK _ ?_; clear hK K
  refine st_want rfl x3 rfl (fun K hK => ?_); go_simp; refine hK _ ?_; clear hK K
  refine st_want rfl x3 rfl (fun K hK => ?_); go_simp; refine hK _ ?_; clear hK K
  refine st_plain rfl (fun K hK => ?_); go_simp; refine hK _ ?_; clear hK K
  refine st_plain rfl (fun K hK => ?_); go_simp; refine hK _ ?_; clear hK K
  refine st_want rfl x9 rfl (fun K hK => ?_); go_simp; refine hK _ ?_; clear hK K
  refine st_want rfl x9 rfl (fun K hK => ?_); go_simp; refine hK _ ?_; clear hK K
  refine st_want rfl x9 rfl (fun K hK => ?_); go_simp; refine hK _ ?_; clear hK K
  refine st_want rfl x9 rfl (fun K hK => ?_); go_simp; refine hK _ ?_; clear hK K
  refine st_plain rfl (fun K hK => ?_); go_simp; refine hK _ ?_; clear hK K
  refine st_plain rfl (fun K hK => ?_); go_simp; refine hK _ ?_; clear hK K
  refine st_want rfl x15 rfl (fun K hK => ?_); go_simp; refine hK _ ?_; clear hK K
  refine st_want rfl x15 rfl (fun K hK => ?_); go_simp; refine hK _ ?_; clear hK K
  refine st_want rfl x15 rfl (fun K hK => ?_); go_simp; refine hK _ ?_; clear hK K
  refine st_plain rfl (fun K hK => ?_); go_simp; refine hK _ ?_; clear hK K
  refine st_plain rfl (fun K hK => ?_); go_simp; refine hK _ ?_; clear hK K
  refine st_want rfl x20 rfl (fun K hK => ?_); go_simp; refine hK _ ?_; clear hK K
  refine st_want rfl x20 rfl (fun K hK => ?_); go_simp; refine hK _ ?_; clear hK K
  refine st_want rfl x20 rfl (fun K hK => ?_); go_simp; refine hK _ ?_; clear hK K
  refine st_plain rfl (fun K hK => ?_); go_simp; refine hK _ ?_; clear hK K
  refine st_plain rfl (fun K hK => ?_); go_simp; refine hK _ ?_; clear hK K
  refine st_want rfl x25 rfl (fun K hK => ?_); go_simp; refine hK _ ?_; clear hK K
  refine st_want rfl x25 rfl (fun K hK => ?_); go_simp; refine hK _ ?_; clear hK K
  refine st_want rfl x25 rfl (fun K hK => ?_); go_simp; refine hK _ ?_; clear hK K
  refine st_want rfl x28 rfl (fun K hK => ?_); go_simp; refine hK _ ?_; clear hK K
  refine st_want rfl x28 rfl (fun K hK => ?_); go_simp; refine hK _ ?_; clear hK K
  refine st_want rfl x28 rfl (fun K hK => ?_); go_simp; refine hK _ ?_; clear hK K
  refine st_want rfl x28 rfl (fun K hK => ?_); go_simp; refine hK _ ?_; clear hK K
  refine st_want rfl x28 rfl (fun K hK => ?_); go_simp; refine hK _ ?_; clear hK K
  refine st_want rfl x28 rfl (fun K hK => ?_); go_simp; refine hK _ ?_; clear hK K
  refine st_want rfl x28 rfl (fun K hK => ?_); go_simp; refine hK _ ?_; clear hK K
  refine st_want rfl x28 rfl (fun K hK => ?_); go_simp; refine hK _ ?_; clear hK K
  refine st_want rfl x28 rfl (fun K hK => ?_); go_simp; refine hK _ ?_; clear hK K
  refine st_want rfl x25 rfl (fun K hK => ?_); go_simp; refine hK _ ?_; clear hK K
  refine wpStill_nil ?_
  go_wp2
  exact HGO.out _ _ _ _ _ _ _ _ _ _ _ _ _ _ _ _ _ _ _ _ _ _ _ _ _ _ _ _ _ _ _ _ _ _ _ _ _ _ _ _ rfl
set_option maxRecDepth 100000 in
set_option maxHeartbeats 8000000 in
theorem s6_8 {K : Exit → Act → World → Prop} {W : World} {Br b off ln cap i : Nat} {name typ x : ByteArray} {id : Int} {u1 u2 u3 u6 u7 u8 u9 u10 u11 u12 u13 u14 u15 u16 u17 u18 u19 u20 u21 u22 u23 u24 u25 u26 u27 u28 u29 u30 u31 u32 u33 u34 u35 u36 u37 u38 u39 u40 u41 u42 u43 u44 u45 u46 u47 u48 u49 u50 u51 u52 u53 u54 u55 u56 u57 u58 : Value}
    (y0 : W.cell? ⟨Br, 0, none⟩ = some (.string name)) (y1 : W.cell? ⟨Br, 1, none⟩ = some (.string typ)) (y2 : W.cell? ⟨Br, 2, none⟩ = some (.int .i64 id)) (e1 : name.toList.isEmpty = false) (d2 : ¬ (40 : Int) < (name.size : Int)) (d3 : ¬ (1000 : Int) < (typ.size : Int)) (d4 : ¬ id < 1) (d5 : ¬ 1099511627776 < id) {j : Nat} (d6 : (0 : Int) < (i : Int)) (d7 : (i : Int) - 1 = (j : Int)) (j0 : (0 : Int) ≤ (j : Int)) (j1 : (j : Int) < (ln : Int)) (hx : W.cell? ⟨b, off + j * 3, none⟩ = some (.string x)) (hcap : ln ≤ 1000000) (e7 : (name.toList == x.toList) = false)
    (hgo : ∀ (v17 v18 v19 v20 v21 v22 v23 v24 v25 v26 v27 v28 v29 v30 v31 v32 v33 v34 v35 v36 v37 v38 v39 v40 v41 v42 v43 v44 v45 v46 v47 v48 v49 v50 v51 v52 v53 v54 v55 : Value) (B : Bool), B = false → K .normal { tmps := #[.slice (some ⟨b, off, none⟩) ln cap, u1, u2, u3, .int .i64 (i : Int), .pointer (some ⟨Br, 0, none⟩), u6, u7, u8, u9, u10, u11, u12, u13, u14, u15, u16, v17, v18, v19, v20, v21, v22, v23, v24, v25, v26, v27, v28, v29, v30, v31, v32, v33, v34, v35, v36, v37, v38, v39, v40, v41, v42, v43, v44, v45, v46, v47, v48, v49, v50, v51, v52, v53, v54, v55, .bool B, u57, u58], defers := [] } W.drew) :
    Code.wp Tryd.prog sreg6 K { tmps := #[.slice (some ⟨b, off, none⟩) ln cap, u1, u2, u3, .int .i64 (i : Int), .pointer (some ⟨Br, 0, none⟩), u6, u7, u8, u9, u10, u11, u12, u13, u14, u15, u16, u17, u18, u19, u20, u21, u22, u23, u24, u25, u26, u27, u28, u29, u30, u31, u32, u33, u34, u35, u36, u37, u38, u39, u40, u41, u42, u43, u44, u45, u46, u47, u48, u49, u50, u51, u52, u53, u54, u55, u56, u57, u58], defers := [] } W := by
  conv => arg 2; whnf
  refine still_abs 39 (by kernel_rfl) (by kernel_rfl) (fun X hX => ?_)
  have x3 := hX 3 20 rfl
  have x9 := hX 9 26 rfl
  have x15 := hX 15 32 rfl
  have x20 := hX 20 37 rfl
  have x25 := hX 25 42 rfl
  have x28 := hX 28 45 rfl
  clear hX
  have q2 := decide_eq_false d2
  have q3 := decide_eq_false d3
  have q4 := decide_eq_false d4
  have q5 := decide_eq_false d5
  have d6n : 0 < i := by omega
  have jw : IntKind.i64.wrap (j : Int) = (j : Int) := by rw [IntKind.wrap_i64]; omega
  have HGO := Lib.hid hgo
  clear hgo
  simp only [List.take_succ_cons, List.take_zero, List.drop_succ_cons, List.drop_zero]
  refine st_plain rfl (fun K hK => ?_); go_simp; refine hK _ ?_; clear hK K
  refine st_plain rfl (fun K hK => ?_); go_simp; refine hK _ ?_; clear hK K
  refine st_plain rfl (fun K hK => ?_); go_simp; refine hK _ ?_; clear hK K
  refine st_plain rfl (fun K hK => ?_); go_simp; refine hK _ ?_; clear hK K
  refine st_want rfl x3 rfl (fun K hK => ?_); go_simp; refine hK _ ?_; clear hK K
  refine st_want rfl x3 rfl (fun K hK => ?_); go_simp; refine hK _ ?_; clear hK K
  refine st_want rfl x3 rfl (fun K hK => ?_); go_simp; refine hK _ ?_; clear hK K
  refine st_want rfl x3 rfl (fun K hK => ?_); go_simp; refine hK _ ?_; clear hK K
  refine st_plain rfl (fun K hK => ?_); go_simp; refine hK _ ?_; clear hK K
  refine st_plain rfl (fun K hK => ?_); go_simp; refine hK _ ?_; clear hK K
  refine st_want rfl x9 rfl (fun K hK => ?_); go_simp; refine hK _ ?_; clear hK K
  refine st_want rfl x9 rfl (fun K hK => ?_); go_simp; refine hK _ ?_; clear hK K
  refine st_want rfl x9 rfl (fun K hK => ?_); go_simp; refine hK _ ?_; clear hK K
  refine st_want rfl x9 rfl (fun K hK => ?_); go_simp; refine hK _ ?_; clear hK K
  refine st_plain rfl (fun K hK => ?_); go_simp; refine hK _ ?_; clear hK K
  refine st_plain rfl (fun K hK => ?_); go_simp; refine hK _ ?_; clear hK K
  refine st_want rfl x15 rfl (fun K hK => ?_); go_simp; refine hK _ ?_; clear hK K
  refine st_want rfl x15 rfl (fun K hK => ?_); go_simp; refine hK _ ?_; clear hK K
  refine st_want rfl x15 rfl (fun K hK => ?_); go_simp; refine hK _ ?_; clear hK K
  refine st_plain rfl (fun K hK => ?_); go_simp; refine hK _ ?_; clear hK K
  refine st_plain rfl (fun K hK => ?_); go_simp; refine hK _ ?_; clear hK K
  refine st_want rfl x20 rfl (fun K hK => ?_); go_simp; refine hK _ ?_; clear hK K
  refine st_want rfl x20 rfl (fun K hK => ?_); go_simp; refine hK _ ?_; clear hK K
  refine st_want rfl x20 rfl (fun K hK => ?_); go_simp; refine hK _ ?_; clear hK K
  refine st_plain rfl (fun K hK => ?_); go_simp; refine hK _ ?_; clear hK K
  refine st_plain rfl (fun K hK => ?_); go_simp; refine hK _ ?_; clear hK K
  refine st_want rfl x25 rfl (fun K hK => ?_); go_simp; refine hK _ ?_; clear hK K
  refine st_want rfl x25 rfl (fun K hK => ?_); go_simp; refine hK _ ?_; clear hK K
  refine st_want rfl x25 rfl (fun K hK => ?_); go_simp; refine hK _ ?_; clear hK K
  refine st_want rfl x28 rfl (fun K hK => ?_); go_simp; refine hK _ ?_; clear hK K
  refine st_want rfl x28 rfl (fun K hK => ?_); go_simp; refine hK _ ?_; clear hK K
  refine st_want rfl x28 rfl (fun K hK => ?_); go_simp; refine hK _ ?_; clear hK K
  refine st_want rfl x28 rfl (fun K hK => ?_); go_simp; refine hK _ ?_; clear hK K
  refine st_want rfl x28 rfl (fun K hK => ?_); go_simp; refine hK _ ?_; clear hK K
  refine st_want rfl x28 rfl (fun K hK => ?_); go_simp; refine hK _ ?_; clear hK K
  refine st_want rfl x28 rfl (fun K hK => ?_); go_simp; refine hK _ ?_; clear hK K
  refine st_want rfl x28 rfl (fun K hK => ?_); go_simp; refine hK _ ?_; clear hK K
  refine st_want rfl x28 rfl (fun K hK => ?_); go_simp; refine hK _ ?_; clear hK K
  refine st_want rfl x25 rfl (fun K hK => ?_); go_simp; refine hK _ ?_; clear hK K
  refine wpStill_nil ?_
  go_wp2
  exact HGO.out _ _ _ _ _ _ _ _ _ _ _ _ _ _ _ _ _ _ _ _ _ _ _ _ _ _ _ _ _ _ _ _ _ _ _ _ _ _ _ _ rfl
end Go.Proofs.YtenikoecnfbfoaaDoor
/- Layer 8 in plain words: what is met stays met, with its number. -/
namespace Go.Proofs.YtenikoecnfbfoaaDoor
open Go.RowKit
set_option linter.unusedVariables false
set_option linter.unusedSimpArgs false
open Gr (RT meetT pairs numOf bfs findO)
namespace Gr
theorem pairsF_app : ∀ (a b : List Int) (k : Nat), pairsF k (a ++ b) = pairsF k a ++ pairsF (k + a.length) b
  | [], b, k => by simp [pairsF]
  | x :: a, b, k => by
    rw [List.cons_append, pairsF, pairsF_app a b, pairsF, List.cons_append, List.length_cons]
    congr 3
    omega
theorem firstP_app {a b : List (Int × Int)} {id c : Int} (h : firstP a id = some c) : firstP (a ++ b) id = some c := by
  induction a with
  | nil => cases h
  | cons x a ih =>
    rw [List.cons_append, firstP]
    rw [firstP] at h
    split
    · rename_i hx; rw [if_pos hx] at h; exact h
    · rename_i hx; rw [if_neg hx] at h; exact ih h
theorem numOf_pre {met m : List Int} (hp : met <+: m) {id : Int} (h : id ∈ met) : numOf m id = numOf met id := by
  obtain ⟨b, rfl⟩ := hp
  obtain ⟨c, _, _, hc⟩ := pairsF_some (k := 1) h
  unfold numOf pairs
  rw [pairsF_app, firstP_app hc, hc]
theorem bfs_pre {objs : List (Int × VT)} : ∀ (f i : Nat) (met : List Int) (vals : List VT) (m : List Int) (v : List VT), bfs objs f i met vals = some (m, v) → met <+: m
  | 0, i, met, vals, m, v, h => by
    rw [bfs] at h
    cases h
    exact List.prefix_refl _
  | f + 1, i, met, vals, m, v, h => by
    rw [bfs] at h
    split at h
    · cases h; exact List.prefix_refl _
    · split at h
      · cases h
      · exact meets_pre.trans (bfs_pre f _ _ _ m v h)
theorem bfs_mem {objs : List (Int × VT)} : ∀ (f i : Nat) (met : List Int) (vals : List VT) (m : List Int) (v : List VT), bfs objs f i met vals = some (m, v) → (∀ x ∈ vals, ∃ o ∈ objs, o.2 = x) → ∀ x ∈ v, ∃ o ∈ objs, o.2 = x
  | 0, i, met, vals, m, v, h, hv => by
    rw [bfs] at h
    cases h
    exact hv
  | f + 1, i, met, vals, m, v, h, hv => by
    rw [bfs] at h
    split at h
    · cases h; exact hv
    · rename_i id _
      split at h
      · cases h
      · rename_i t ht
        refine bfs_mem f _ _ _ m v h (fun x hx => ?_)
        rcases List.mem_append.1 hx with h | h
        · exact hv x h
        · rw [List.mem_singleton.1 h]
          exact ⟨(id, t), findO_mem ht, rfl⟩
end Gr
theorem AllAt.below {w w' : World} {M N : Nat} {objs : List (Int × VT)} {f : Int → Option Value} (h : AllAt w (fun b => b < M) objs f) (hb : Below M w w') (hN : M ≤ N) : AllAt w' (fun b => b < N) objs f := fun id => by
  have h := h id
  cases ho : findO objs id with
  | none => rw [ho] at h; exact h
  | some t =>
    rw [ho] at h
    obtain ⟨ao, cap, h1, h2⟩ := h
    exact ⟨ao, cap, h1, (h2.below hb (fun b hb => hb)).mono (fun b hb => Nat.lt_of_lt_of_le hb hN)⟩
theorem renum_pre {met m : List Int} (hp : met <+: m) {s : List RT} (h : ∀ r ∈ s, r.id ∈ met) : s.map (renum met) = s.map (renum m) := by
  apply List.map_congr_left
  intro r hr
  unfold renum
  rw [Gr.numOf_pre hp (h r hr)]
end Go.Proofs.YtenikoecnfbfoaaDoor
/- Layer 8: objects' cells. -/
namespace Go.Proofs.YtenikoecnfbfoaaDoor
open Go.RowKit
set_option linter.unusedVariables false
set_option linter.unusedSimpArgs false
/-- An object's five cells. -/
def ocs (x : OB) : List Value := [.int .i64 x.id, .int .i64 x.k, .int .i64 x.n, .string x.s, .slice x.ao x.len x.cap]
theorem ocs_len (x : OB) : (ocs x).length = 5 := rfl
def ocells (l : List OB) : List Value := l.flatMap ocs
theorem ocells_cons (r : OB) (l : List OB) : ocells (r :: l) = ocs r ++ ocells l := rfl
theorem ocells_append (a b : List OB) : ocells (a ++ b) = ocells a ++ ocells b := List.flatMap_append
theorem ocells_length : ∀ l : List OB, (ocells l).length = l.length * 5
  | [] => rfl
  | r :: l => by rw [ocells_cons, List.length_append, ocells_length l, ocs_len, List.length_cons]; omega
theorem ocells_one : ∀ (l : List OB), ∀ v ∈ ocells l, v.oneCell' = true := fun l v hv => by
  obtain ⟨r, _, h⟩ := List.mem_flatMap.1 hv
  simp only [ocs, List.mem_cons, List.not_mem_nil, or_false] at h
  rcases h with rfl | rfl | rfl | rfl | rfl <;> rfl
theorem ocells_get : ∀ {l : List OB} {j k : Nat} {r : OB}, l[j]? = some r → k < 5 → (ocells l)[j * 5 + k]? = (ocs r)[k]?
  | [], _, _, _, h, _ => by cases h
  | x :: l, 0, k, r, h, hk => by
    rw [List.getElem?_cons_zero] at h; cases h
    rw [ocells_cons, Nat.zero_mul, Nat.zero_add, List.getElem?_append_left (by rw [ocs_len]; exact hk)]
  | x :: l, j + 1, k, r, h, hk => by
    rw [List.getElem?_cons_succ] at h
    rw [ocells_cons, List.getElem?_append_right (by rw [ocs_len]; omega), ocs_len, show (j + 1) * 5 + k - 5 = j * 5 + k by omega]
    exact ocells_get h hk
end Go.Proofs.YtenikoecnfbfoaaDoor
