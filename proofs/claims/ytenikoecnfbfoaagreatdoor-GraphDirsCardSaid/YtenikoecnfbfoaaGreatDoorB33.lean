/- Texts of the proof, in build order: GrSames, GrDirs. -/
import Derived.Test.YtenikoecnfbfoaaGreatDoorB32
import Derived.Test.YtenikoecnfbfoaaGreatDoorB28
/- Layer 8: the law GraphSames: the walk. -/
namespace Go.Proofs.YtenikoecnfbfoaaGreatDoor
open Go.RowKit
set_option linter.unusedVariables false
set_option linter.unusedSimpArgs false
open Gr (RT GT makeT)
/-- Two boxes of graphs. -/
structure SmAt (w W : World) (p q : Nat) (a1 a2 b1 b2 : Option Addr) (c1 c2 d1 d2 : Nat) (g h : GT) : Prop where
  zp : W.heap[p]? = some (.cells #[.slice a1 g.roots.length c1, .slice a2 g.objs.length c2] 31 (0, 0))
  zq : W.heap[q]? = some (.cells #[.slice b1 h.roots.length d1, .slice b2 h.objs.length d2] 31 (0, 0))
  gr : RtAt W (.slice a1 g.roots.length c1) g.roots
  go : VsAt W (.slice a2 g.objs.length c2) g.objs
  hr : RtAt W (.slice b1 h.roots.length d1) h.roots
  ho : VsAt W (.slice b2 h.objs.length d2) h.objs
  hb : Below w.heap.size w W
section
variable {w W W' : World} {p q : Nat} {a1 a2 b1 b2 : Option Addr} {c1 c2 d1 d2 : Nat} {g h : GT}
theorem SmAt.below (s : SmAt w W p q a1 a2 b1 b2 c1 c2 d1 d2 g h) (hb : Below W.heap.size W W') : SmAt w W' p q a1 a2 b1 b2 c1 c2 d1 d2 g h :=
  ⟨(hb.block _ (lt_of_block s.zp)).trans s.zp, (hb.block _ (lt_of_block s.zq)).trans s.zq, s.gr.below hb, s.go.below hb, s.hr.below hb, s.ho.below hb, s.hb.trans (hb.mono s.hb.size)⟩
abbrev SmC (W : World) (p q : Nat) (a1 a2 b1 b2 : Option Addr) (c1 c2 d1 d2 : Nat) (g h : GT) : Prop :=
  (W.cell? ⟨p, 0, none⟩ = some (.slice a1 g.roots.length c1) ∧ W.cell? ⟨p, 1, none⟩ = some (.slice a2 g.objs.length c2)) ∧ W.cell? ⟨q, 0, none⟩ = some (.slice b1 h.roots.length d1) ∧ W.cell? ⟨q, 1, none⟩ = some (.slice b2 h.objs.length d2)
theorem SmAt.cells (s : SmAt w W p q a1 a2 b1 b2 c1 c2 d1 d2 g h) : SmC W p q a1 a2 b1 b2 c1 c2 d1 d2 g h :=
  ⟨⟨(cells2 s.zp).1, (cells2 s.zp).2.1⟩, (cells2 s.zq).1, (cells2 s.zq).2.1⟩
end
/-- What lies about, once few has been called for both. -/
structure FwTwo (w W : World) (v5 v6 v7 v8 : Value) (la lb : List RT) (oa ob : List (Int × VT)) : Prop where
  r1 : RtAt W v5 (fewR la)
  o1 : ∃ N, OwRow 50 W N v6 (fewO oa)
  r2 : RtAt W v7 (fewR lb)
  o2 : ∃ N, OwRow 50 W N v8 (fewO ob)
  hb : Below w.heap.size w W
theorem FwTwo.below {w W W' : World} {v5 v6 v7 v8 : Value} {la lb : List RT} {oa ob : List (Int × VT)} (s : FwTwo w W v5 v6 v7 v8 la lb oa ob) (hb : Below W.heap.size W W') : FwTwo w W' v5 v6 v7 v8 la lb oa ob := by
  obtain ⟨N, h1⟩ := s.o1
  obtain ⟨M, h2⟩ := s.o2
  exact ⟨s.r1.below hb, ⟨N, h1.below hb⟩, s.r2.below hb, ⟨M, h2.below hb⟩, s.hb.trans (hb.mono s.hb.size)⟩
set_option maxRecDepth 100000 in
set_option maxHeartbeats 8000000 in
theorem graphSames_walk (la lb : List RT) (oa ob : List (Int × VT)) (ra va xa ya rb vb xb yb : Value) (w : World) (hT : Tab w) (h1 : RtIn w ra la) (h2 : ObIn w va oa) (h3 : RtIn w rb lb) (h4 : ObIn w vb ob) :
    Calls Tryz.prog 4 #[.agg #[ra, va, xa, ya], .agg #[rb, vb, xb, yb]] w fun e w' => e = .returned (.bool true) ∧ Below w.heap.size w w' := by
  have HG : Hid (∀ W, Below w.heap.size w W → Calls Tryz.prog 11 #[] W fun e w' => e = .returned (.bool true) ∧ Below W.heap.size W w') := fun W hW => graphs_any W (hT.below hW)
  have HF1 : Hid (∀ W, Below w.heap.size w W → Calls Tryz.prog 6 #[ra, va] W (FewEnd W la oa)) := fun W hW => few_any W ra va la oa (h1.below hW) (h2.below hW)
  have HF2 : Hid (∀ W, Below w.heap.size w W → Calls Tryz.prog 6 #[rb, vb] W (FewEnd W lb ob)) := fun W hW => few_any W rb vb lb ob (h3.below hW) (h4.below hW)
  have HW1 := Lib.hid h1.wf
  have HW2 := Lib.hid h3.wf
  clear hT h1 h2 h3 h4
  go_enter Tryz.func4, Tryz.ntmps4
  go_upto_region 1 with fail
  obtain ⟨W0, hW0⟩ : ∃ W0, W0 = ((w.alloc (.cells #[ra, va, xa, ya] 54 (0, 0))).alloc (.cells #[rb, vb, xb, yb] 54 (0, 0))) := ⟨_, rfl⟩
  have hB0 : Below w.heap.size w W0 := by rw [hW0]; exact ((Below.refl _ _).alloc (Nat.le_refl _) _).trans ((Below.refl _ _).alloc (by simp) _)
  have z0 := two_new w W0 #[ra, va, xa, ya] #[rb, vb, xb, yb] 54 54 (by rw [hW0]; exact Below.refl _ _)
  rw [← hW0]
  clear hW0
  have B0 := Lib.hid hB0
  obtain ⟨a0, a1, _, _, _⟩ := hdr4_cells z0.1
  have ZB := Lib.hid z0.2.1
  clear hB0 z0
  go_upto_region 2 with ((go_at_call 6; refine (HF1.out _ B0.out).mono ?_; clear HF1; rintro e w1 ⟨v5, v6, rfl, hr1, ho1, hb1⟩; have HR1 := Lib.hid hr1; have HO1 := Lib.hid ho1; have ZB1 := Lib.hid ((hb1.block _ (lt_of_block ZB.out)).trans ZB.out); have B1 := Lib.hid (B0.out.trans (hb1.mono B0.out.size)); clear hb1 hr1 ho1))
  clear a0 a1 ZB B0
  obtain ⟨a0, a1, _, _, _⟩ := hdr4_cells ZB1.out
  go_upto_region 3 with ((go_at_call 6; refine (HF2.out _ B1.out).mono ?_; clear HF2; rintro e w2 ⟨v7, v8, rfl, hr2, ho2, hb2⟩; have F2 : Hid (FwTwo w w2 v5 v6 v7 v8 la lb oa ob) := ⟨HR1.out.at_.below hb2, ⟨_, HO1.out.below hb2⟩, hr2.at_, ⟨_, ho2⟩, B1.out.trans (hb2.mono B1.out.size)⟩; clear hb2 hr2 ho2))
  clear a0 a1 ZB1 HR1 HO1 B1
  obtain ⟨r, hr⟩ : ∃ r, makeT (fewR la) (fewO oa) = r := ⟨_, rfl⟩
  obtain ⟨q, hq⟩ : ∃ r, makeT (fewR lb) (fewO ob) = r := ⟨_, rfl⟩
  have HM1 : Hid (∀ (W : World) (vr vo : Value), RtAt W vr (fewR la) → (∃ N, OwRow 49 W N vo (fewO oa)) → Calls Tryz.prog 8 #[vr, vo] W (MakeEnd W r)) := fun W vr vo h1 ⟨N, h2⟩ => by rw [← hr]; exact make_few HW1.out h1 h2
  have HM2 : Hid (∀ (W : World) (vr vo : Value), RtAt W vr (fewR lb) → (∃ N, OwRow 49 W N vo (fewO ob)) → Calls Tryz.prog 8 #[vr, vo] W (MakeEnd W q)) := fun W vr vo h1 ⟨N, h2⟩ => by rw [← hq]; exact make_few HW2.out h1 h2
  have HE1 : Hid (r.2 = 0 → graphSame r.1 ⟨[], []⟩ = decide (r.1.roots.length = 0)) := by rw [← hr]; exact Gr.make_empty
  have hl1 := Gr.make_lens (fewR la) (fewO oa)
  have hl2 := Gr.make_lens (fewR lb) (fewO ob)
  have HL : Hid (r.1.roots.length ≤ 1000000 ∧ q.1.roots.length ≤ 1000000 ∧ r.1.objs.length ≤ 1000000 ∧ q.1.objs.length ≤ 1000000) := by
    rw [hr] at hl1; rw [hq] at hl2
    have a1 := fewR_len la; have a2 := fewR_len lb; have a3 := fewO_len oa; have a4 := fewO_len ob
    exact ⟨by omega, by omega, by omega, by omega⟩
  clear hr hq HW1 HW2 hl1 hl2
  go_upto_region 4 with (first
    | (go_at_call 9; refine (toRoots_few F2.out.r1).mono ?_; rintro e w3 ⟨u1, rfl, k1, hb3⟩; have K1 := Lib.hid k1; have F3 := Lib.hid (F2.out.below hb3); clear k1 hb3 F2)
    | (go_at_call 7; refine (toObjects_few F3.out.o1.choose_spec).mono ?_; rintro e w4 ⟨u2, rfl, k2, hb4⟩; have K2 := Lib.hid k2; have K12 := Lib.hid (K1.out.below hb4); have F4 := Lib.hid (F3.out.below hb4); clear k2 hb4 F3 K1)
    | (go_at_call 8; refine (HM1.out _ _ _ K12.out ⟨_, K2.out⟩).mono ?_; rintro e w5 h5; obtain ⟨b1, c1, b2, c2, rfl, j1, j2, hb5⟩ := h5.gis; have J1 := Lib.hid j1; have J2 := Lib.hid j2; have F5 := Lib.hid (F4.out.below hb5); clear h5 j1 j2 hb5 F4 K12 K2))
  obtain ⟨W5, hW5⟩ : ∃ W5, W5 = w5.alloc (.cells #[.slice b1 r.1.roots.length c1, .slice b2 r.1.objs.length c2] 31) := ⟨_, rfl⟩
  obtain ⟨p, hp⟩ : ∃ p, p = w5.heap.size := ⟨_, rfl⟩
  have hb5 : Below w5.heap.size w5 W5 := by rw [hW5]; exact (Below.refl _ _).alloc (Nat.le_refl _) _
  have ZP : Hid (W5.heap[p]? = some (.cells #[.slice b1 r.1.roots.length c1, .slice b2 r.1.objs.length c2] 31 (0, 0))) := by show _ = _; rw [hW5, hp]; exact World.alloc_heap_new _ _
  have J3 := Lib.hid (J1.out.below hb5)
  have J4 := Lib.hid (J2.out.below hb5)
  have F6 := Lib.hid (F5.out.below hb5)
  rw [← hW5, ← hp]
  clear hW5 hp hb5 J1 J2 F5
  go_upto_region 5 with (first
    | (go_at_call 9; refine (toRoots_few F6.out.r2).mono ?_; rintro e w6 ⟨u1, rfl, k1, hb3⟩; have K1 := Lib.hid k1; have F7 := Lib.hid (F6.out.below hb3); have P7 := Lib.hid ((hb3.block _ (lt_of_block ZP.out)).trans ZP.out); have Q7 := Lib.hid (J3.out.below hb3); have R7 := Lib.hid (J4.out.below hb3); clear k1 hb3 F6)
    | (go_at_call 7; refine (toObjects_few F7.out.o2.choose_spec).mono ?_; rintro e w7 ⟨u2, rfl, k2, hb4⟩; have K2 := Lib.hid k2; have K12 := Lib.hid (K1.out.below hb4); have F8 := Lib.hid (F7.out.below hb4); have P8 := Lib.hid ((hb4.block _ (lt_of_block P7.out)).trans P7.out); have Q8 := Lib.hid (Q7.out.below hb4); have R8 := Lib.hid (R7.out.below hb4); clear k2 hb4 F7 K1)
    | (go_at_call 8; refine (HM2.out _ _ _ K12.out ⟨_, K2.out⟩).mono ?_; rintro e w8 h5; obtain ⟨b3, c3, b4, c4, rfl, j1, j2, hb5⟩ := h5.gis; have J1 := Lib.hid j1; have J2 := Lib.hid j2; have F9 := Lib.hid (F8.out.below hb5); have P9 := Lib.hid ((hb5.block _ (lt_of_block P8.out)).trans P8.out); have Q9 := Lib.hid (Q8.out.below hb5); have R9 := Lib.hid (R8.out.below hb5); clear h5 j1 j2 hb5 F8 K12 K2))
  obtain ⟨W9, hW9⟩ : ∃ W9, W9 = w8.alloc (.cells #[.slice b3 q.1.roots.length c3, .slice b4 q.1.objs.length c4] 31) := ⟨_, rfl⟩
  obtain ⟨p2, hp2⟩ : ∃ p, p = w8.heap.size := ⟨_, rfl⟩
  have hb9 : Below w8.heap.size w8 W9 := by rw [hW9]; exact (Below.refl _ _).alloc (Nat.le_refl _) _
  have SM : Hid (SmAt w W9 p p2 b1 b2 b3 b4 c1 c2 c3 c4 r.1 q.1) := ⟨(hb9.block _ (lt_of_block P9.out)).trans P9.out, by rw [hW9, hp2]; exact World.alloc_heap_new _ _, Q9.out.below hb9, R9.out.below hb9, J1.out.below hb9, J2.out.below hb9, F9.out.hb.trans (hb9.mono F9.out.hb.size)⟩
  rw [← hW9, ← hp2]
  clear hW9 hp2 hb9 J1 J2 F9 P9 Q9 R9 ZP J3 J4 P7 P8 Q7 Q8 R7 R8
  obtain ⟨g, e⟩ := r
  obtain ⟨h, f⟩ := q
  dsimp only at SM HE1 HL ⊢
  have HGS : Hid (∀ W, SmAt w W p p2 b1 b2 b3 b4 c1 c2 c3 c4 g h → Calls Tryz.prog 11 #[] W fun e w' => e = .returned (.bool true) ∧ SmAt w w' p p2 b1 b2 b3 b4 c1 c2 c3 c4 g h) := fun W s => (HG.out W s.hb).mono fun e w' k => ⟨k.1, s.below k.2⟩
  by_cases hz : e = 0 ∧ f = 0
  · obtain ⟨rfl, rfl⟩ := hz
    go_upto_region 7 with (go_at_call 11; refine (HGS.out _ SM.out).mono ?_; rintro e w10 ⟨rfl, s10⟩; have S10 := Lib.hid s10; clear s10)
    obtain ⟨qs, hqs⟩ : ∃ x, graphSame g h = x := ⟨_, rfl⟩
    obtain ⟨qz, hqz⟩ : ∃ x, decide (g.roots.length = 0) = x := ⟨_, rfl⟩
    obtain ⟨n, hn⟩ : ∃ n, g.roots.length = n := ⟨_, rfl⟩
    have S10d : Hid (SmAt w w10.drew p p2 b1 b2 b3 b4 c1 c2 c3 c4 g h) := S10.out.below (Below.refl _ _).drew
    have HS1 : Hid (∀ W, SmAt w W p p2 b1 b2 b3 b4 c1 c2 c3 c4 g h → Calls Tryz.prog 16 #[.agg #[.slice b1 g.roots.length c1, .slice b2 g.objs.length c2], .agg #[.slice b3 h.roots.length c3, .slice b4 h.objs.length c4]] W fun e w' => e = .returned (.bool qs) ∧ SmAt w w' p p2 b1 b2 b3 b4 c1 c2 c3 c4 g h) := fun W s =>
      (graphSame_any W _ _ _ _ g h s.gr s.go s.hr s.ho HL.out.1 HL.out.2.1).mono fun e w' k => ⟨by rw [← hqs]; exact k.1, s.below k.2⟩
    have HS2 : Hid (∀ W, SmAt w W p p2 b1 b2 b3 b4 c1 c2 c3 c4 g h → Calls Tryz.prog 16 #[.agg #[.slice b3 h.roots.length c3, .slice b4 h.objs.length c4], .agg #[.slice b1 g.roots.length c1, .slice b2 g.objs.length c2]] W fun e w' => e = .returned (.bool qs) ∧ SmAt w w' p p2 b1 b2 b3 b4 c1 c2 c3 c4 g h) := fun W s =>
      (graphSame_any W _ _ _ _ h g s.hr s.ho s.gr s.go HL.out.2.1 HL.out.1).mono fun e w' k => ⟨by rw [← hqs, Gr.graphSame_comm]; exact k.1, s.below k.2⟩
    have HS3 : Hid (∀ W, SmAt w W p p2 b1 b2 b3 b4 c1 c2 c3 c4 g h → Calls Tryz.prog 16 #[.agg #[.slice b1 g.roots.length c1, .slice b2 g.objs.length c2], .agg #[.slice none 0 0, .slice none 0 0]] W fun e w' => e = .returned (.bool qz) ∧ SmAt w w' p p2 b1 b2 b3 b4 c1 c2 c3 c4 g h) := fun W s =>
      (graphSame_any W _ _ _ _ g ⟨[], []⟩ s.gr s.go (rtAt_nil W) (VsAt.nil W) HL.out.1 (by simp)).mono fun e w' k => ⟨by rw [← hqz, ← HE1.out (by simp)]; exact k.1, s.below k.2⟩
    have HR1 : Hid (∀ W, SmAt w W p p2 b1 b2 b3 b4 c1 c2 c3 c4 g h → Calls Tryz.prog 13 #[.agg #[.slice b1 g.roots.length c1, .slice b2 g.objs.length c2]] W fun e w' => ∃ vr', e = .returned (.agg #[vr', .slice b2 g.objs.length c2]) ∧ RtAt w' vr' g.roots ∧ SmAt w w' p p2 b1 b2 b3 b4 c1 c2 c3 c4 g h) := fun W s =>
      (from_any W _ _ g s.gr s.go HL.out.1).mono fun e w' ⟨vr', k1, k2, k3, k4⟩ => ⟨vr', k1, k2, s.below k4⟩
    have HR2 : Hid (∀ W, SmAt w W p p2 b1 b2 b3 b4 c1 c2 c3 c4 g h → Calls Tryz.prog 13 #[.agg #[.slice b3 h.roots.length c3, .slice b4 h.objs.length c4]] W fun e w' => ∃ vr', e = .returned (.agg #[vr', .slice b4 h.objs.length c4]) ∧ RtAt w' vr' h.roots ∧ SmAt w w' p p2 b1 b2 b3 b4 c1 c2 c3 c4 g h ∧ Below W.heap.size W w') := fun W s =>
      (from_any W _ _ h s.hr s.ho HL.out.2.1).mono fun e w' ⟨vr', k1, k2, k3, k4⟩ => ⟨vr', k1, k2, s.below k4, k4⟩
    have HRS : Hid (∀ W v1 v2, SmAt w W p p2 b1 b2 b3 b4 c1 c2 c3 c4 g h → RtAt W v1 g.roots → RtAt W v2 h.roots → Calls Tryz.prog 12 #[.agg #[v1, .slice b2 g.objs.length c2], .agg #[v2, .slice b4 h.objs.length c4]] W fun e w' => e = .returned (.bool qs) ∧ SmAt w w' p p2 b1 b2 b3 b4 c1 c2 c3 c4 g h) := fun W v1 v2 s r1 r2 =>
      (refGraphSame_any W _ _ _ _ g h r1 s.go r2 s.ho HL.out.1 HL.out.2.1 HL.out.2.2.1 HL.out.2.2.2).mono fun e w' k => ⟨by rw [← hqs]; exact k.1, s.below k.2⟩
    have HNZ : Hid (qz = decide ((n : Int) = 0)) := by show _ = _; rw [← hqz, hn]; simp
    have HSC : Hid (∀ W, SmAt w W p p2 b1 b2 b3 b4 c1 c2 c3 c4 g h → SmC W p p2 b1 b2 b3 b4 c1 c2 c3 c4 g h) := fun W s => s.cells
    unfold SmC at HSC
    clear hqs hqz S10 HE1 HL HG
    rw [hn] at HS1 HS2 HS3 HR1 HSC ⊢
    go_region_held3 (fun w' => (w'.cell? ⟨p, 0, none⟩ = some (.slice b1 n c1) ∧ w'.cell? ⟨p, 1, none⟩ = some (.slice b2 g.objs.length c2)) ∧ w'.cell? ⟨p2, 0, none⟩ = some (.slice b3 h.roots.length c3) ∧ w'.cell? ⟨p2, 1, none⟩ = some (.slice b4 h.objs.length c4)) (with_reducible (first | exact HSC.out _ S17.out | exact HSC.out _ S16.out | exact HSC.out _ S15.out | exact HSC.out _ S14.out | exact HSC.out _ S13.out | exact HSC.out _ S12.out | exact HSC.out _ S11.out | exact HSC.out _ S10d.out))
      (first
        | (go_at_call 16; with_reducible refine (HS1.out w10.drew S10d.out).mono ?_; rintro e w11 ⟨rfl, s⟩; have S11 := Lib.hid s; clear s)
        | (go_at_call 13; with_reducible refine (HR1.out w11 S11.out).mono ?_; clear HR1; rintro e w12 ⟨v1, rfl, k1, s⟩; have K1 := Lib.hid k1; have S12 := Lib.hid s; clear s k1)
        | (go_at_call 13; with_reducible refine (HR2.out w12 S12.out).mono ?_; clear HR2; rintro e w13 ⟨v2, rfl, k2, s, hb⟩; have K2 := Lib.hid k2; have K12 := Lib.hid (K1.out.below hb); have S13 := Lib.hid s; clear s k2 hb)
        | (go_at_call 12; with_reducible refine (HRS.out w13 _ _ S13.out K12.out K2.out).mono ?_; clear HRS; rintro e w14 ⟨rfl, s⟩; have S14 := Lib.hid s; clear s)
        | (go_at_call 16; with_reducible refine (HS2.out w14 S14.out).mono ?_; clear HS2; rintro e w15 ⟨rfl, s⟩; have S15 := Lib.hid s; clear s)
        | (go_at_call 16; with_reducible refine (HS1.out w15 S15.out).mono ?_; clear HS1; rintro e w16 ⟨rfl, s⟩; have S16 := Lib.hid s; clear s)
        | (go_at_call 16; with_reducible refine (HS3.out w16 S16.out).mono ?_; clear HS3; rintro e w17 ⟨rfl, s⟩; have S17 := Lib.hid s; clear s))
    have hx : (qz == ((n : Int) == 0)) = true := by
      rw [HNZ.out]
      by_cases h0 : n = 0
      · subst h0; rfl
      · have h1 : ((n : Int) == 0) = false := by simp; omega
        have h2 : decide ((n : Int) = 0) = false := by simp; omega
        rw [h1, h2]; rfl
    rw [hx]
    clear hx
    go_wp2
    go_ret
    exact ⟨rfl, S17.out.hb⟩
  · have HF : Hid (e ≠ 0 ∨ f ≠ 0) := by
      by_cases h1 : e = 0
      · exact .inr fun h2 => hz ⟨h1, h2⟩
      · exact .inl h1
    clear hz
    by_cases h1 : e = 0
    · have h2 : f ≠ 0 := HF.out.resolve_left (fun h => h h1)
      subst h1
      go_wp2_with (first
        | (go_at_call 11; refine (HGS.out _ SM.out).mono ?_; clear SM; rintro e w10 ⟨rfl, s10⟩; have S10 := Lib.hid s10; clear s10)
        | (go_at_call 11; refine (HGS.out _ S10.out).mono ?_; rintro e w11 ⟨rfl, s11⟩; have S11 := Lib.hid s11; clear s11))
      go_ret
      exact ⟨rfl, S11.out.hb⟩
    · go_wp2_with (first
        | (go_at_call 11; refine (HGS.out _ SM.out).mono ?_; clear SM; rintro e w10 ⟨rfl, s10⟩; have S10 := Lib.hid s10; clear s10)
        | (go_at_call 11; refine (HGS.out _ S10.out).mono ?_; rintro e w11 ⟨rfl, s11⟩; have S11 := Lib.hid s11; clear s11))
      go_ret
      exact ⟨rfl, S11.out.hb⟩
end Go.Proofs.YtenikoecnfbfoaaGreatDoor
/- Layer 8: the law GraphDirs: the walk. -/
namespace Go.Proofs.YtenikoecnfbfoaaGreatDoor
open Go.RowKit
set_option linter.unusedVariables false
set_option linter.unusedSimpArgs false
open Gr (RT GT makeT dirT rootsT gather)
/-- Two boxes with one value each, the same; two rows of roots, the same. -/
structure DsAt (w W : World) (p5 p7 : Nat) (t : VT) (a5 a7 : Option Addr) (c5 c7 : Nat) (L l : List RT) (a9 a11 a0 : Option Addr) (c9 c11 c0 : Nat) : Prop where
  z5 : W.heap[p5]? = some (.cells #[.int .i64 t.kind, .int .i64 t.num, .string t.text, .slice a5 t.kids.length c5] 47 (0, 0))
  z7 : W.heap[p7]? = some (.cells #[.int .i64 t.kind, .int .i64 t.num, .string t.text, .slice a7 t.kids.length c7] 47 (0, 0))
  v5 : ValIs W (fun b => b < W.heap.size) t (vval t a5 c5)
  v7 : ValIs W (fun b => b < W.heap.size) t (vval t a7 c7)
  r9 : RtAt W (.slice a9 L.length c9) L
  r11 : RtAt W (.slice a11 L.length c11) L
  r0 : RtAt W (.slice a0 l.length c0) l
  hb : Below w.heap.size w W
section
variable {w W W' : World} {p5 p7 : Nat} {t : VT} {a5 a7 a9 a11 a0 : Option Addr} {c5 c7 c9 c11 c0 : Nat} {L l : List RT}
theorem vlow {t : VT} {v : Value} (h : ValIs W (fun b => b < W.heap.size) t v) (hb : Below W.heap.size W W') : ValIs W' (fun b => b < W'.heap.size) t v := (h.below hb (fun b hb => hb)).mono (fun _ hx => Nat.lt_of_lt_of_le hx hb.size)
theorem DsAt.below (s : DsAt w W p5 p7 t a5 a7 c5 c7 L l a9 a11 a0 c9 c11 c0) (hb : Below W.heap.size W W') : DsAt w W' p5 p7 t a5 a7 c5 c7 L l a9 a11 a0 c9 c11 c0 :=
  ⟨(hb.block _ (lt_of_block s.z5)).trans s.z5, (hb.block _ (lt_of_block s.z7)).trans s.z7, vlow s.v5 hb, vlow s.v7 hb, s.r9.below hb, s.r11.below hb, s.r0.below hb, s.hb.trans (hb.mono s.hb.size)⟩
abbrev DsC (W : World) (p5 p7 : Nat) (t : VT) (a5 a7 : Option Addr) (c5 c7 : Nat) : Prop :=
  (W.cell? ⟨p5, 0, none⟩ = some (.int .i64 t.kind) ∧ W.cell? ⟨p5, 1, none⟩ = some (.int .i64 t.num) ∧ W.cell? ⟨p5, 2, none⟩ = some (.string t.text) ∧ W.cell? ⟨p5, 3, none⟩ = some (.slice a5 t.kids.length c5)) ∧
    W.cell? ⟨p7, 0, none⟩ = some (.int .i64 t.kind) ∧ W.cell? ⟨p7, 1, none⟩ = some (.int .i64 t.num) ∧ W.cell? ⟨p7, 2, none⟩ = some (.string t.text) ∧ W.cell? ⟨p7, 3, none⟩ = some (.slice a7 t.kids.length c7)
theorem DsAt.cells (s : DsAt w W p5 p7 t a5 a7 c5 c7 L l a9 a11 a0 c9 c11 c0) : DsC W p5 p7 t a5 a7 c5 c7 := by
  obtain ⟨x0, x1, x2, x3, _⟩ := hdr4_cells s.z5
  obtain ⟨y0, y1, y2, y3, _⟩ := hdr4_cells s.z7
  exact ⟨⟨x0, x1, x2, x3⟩, y0, y1, y2, y3⟩
end
theorem DirEnd.form {w : World} {r : VT × Int} {e : Ending} {w' : World} (h : DirEnd w r e w') : ∃ ao cap, e = .returned (.tuple #[.agg #[.int .i64 r.1.kind, .int .i64 r.1.num, .string r.1.text, .slice ao r.1.kids.length cap], .int .i64 r.2]) ∧ ValIs w' (fun b => w.heap.size ≤ b ∧ b < w'.heap.size) r.1 (vval r.1 ao cap) ∧ Below w.heap.size w w' := by
  obtain ⟨v, rfl, hv, hb⟩ := h
  obtain ⟨ao, cap, rfl⟩ := hv.form
  exact ⟨ao, cap, rfl, hv, hb⟩
theorem RootsEnd.form {T : TypeId} {w : World} {r : Option (List RT)} {e : Ending} {w' : World} (h : RootsEnd T w r e w') : ∃ ao cap, e = .returned (.tuple #[.slice ao (r.getD []).length cap, .int .i64 (if r.isSome then 0 else 2)]) ∧ RtAt w' (.slice ao (r.getD []).length cap) (r.getD []) ∧ Below w.heap.size w w' := by
  obtain ⟨v, rfl, h1, h2, hb⟩ := h
  cases r with
  | none =>
    rw [h2 rfl]
    exact ⟨none, 0, rfl, (RtRow.nil T w' 0).at_, hb⟩
  | some out =>
    have h := (h1 out rfl).at_
    obtain ⟨ao, cap, rfl, _⟩ := h.cells
    exact ⟨ao, cap, rfl, h, hb⟩
def DsLoop (w : World) (p5 p7 : Nat) (t : VT) (a5 a7 : Option Addr) (c5 c7 : Nat) (L l : List RT) (a9 a11 a0 : Option Addr) (c9 c11 c0 : Nat) (gk : Nat) (s13 : Value) (wr : World) : Prop :=
  ∃ i : Nat, s13 = .int .i64 (i : Int) ∧ i + gk = L.length ∧ DsAt w wr p5 p7 t a5 a7 c5 c7 L l a9 a11 a0 c9 c11 c0
theorem RtAt.look {W : World} {a : Option Addr} {n c : Nat} {L : List RT} (h : RtAt W (.slice a n c) L) {i : Nat} {r : RT} (hr : L[i]? = some r) : ∃ b off, a = some ⟨b, off, none⟩ ∧ W.cell? ⟨b, off + i * 3, none⟩ = some (.string (bytes r.name)) ∧ W.cell? ⟨b, off + i * 3 + 1, none⟩ = some (.string (bytes r.typ)) ∧ W.cell? ⟨b, off + i * 3 + 2, none⟩ = some (.int .i64 r.id) := by
  obtain ⟨ao, cap, e, hh⟩ := h.cells
  cases e
  obtain ⟨b, off, e, _, c0, c1, c2⟩ := hh i r hr
  exact ⟨b, off, e, c0, c1, c2⟩
set_option maxRecDepth 100000 in
set_option maxHeartbeats 8000000 in
theorem graphDirs_walk (l0 : List RT) (tv : VT) (vl vv : Value) (w : World) (hT : Tab w) (hl : RtIn w vl l0) (hv : ValIs w (fun b => b < w.heap.size) tv vv) :
    Calls Tryz.prog 5 #[vl, vv] w fun e w' => e = .returned (.bool true) ∧ Below w.heap.size w w' := by
  have HG : Hid (∀ W, Below w.heap.size w W → Calls Tryz.prog 11 #[] W fun e w' => e = .returned (.bool true) ∧ Below W.heap.size W w') := fun W hW => graphs_any W (hT.below hW)
  have HF : Hid (∀ W, Below w.heap.size w W → Calls Tryz.prog 6 #[vl, .slice none 0 0] W (FewEnd W l0 [])) := fun W hW => few_any W vl _ l0 [] (hl.below hW) (ObIn.nil W)
  obtain ⟨q, hq⟩ : ∃ q, tv.tame 200 200 = q := ⟨_, rfl⟩
  have HTM : Hid (∀ W, Below w.heap.size w W → Calls Tryz.prog 18 #[vv, .int .i64 200, .int .i64 200] W (TameEnd W q)) := fun W hW => by rw [← hq]; exact tame_walk tv.sz tv _ W _ 200 200 (Nat.le_refl _) (hv.below hW (fun b h => h)) (fun b hb => Nat.lt_of_lt_of_le hb hW.size) (by decide) (by decide) (by decide) (by decide)
  have HGD : Hid (∀ out, gather 102 q.1 [] = some out → ∀ r ∈ out, Gd r) := by rw [← hq]; exact Gr.gather_gd hv
  obtain ⟨l, hll⟩ : ∃ l, fewR l0 = l := ⟨_, rfl⟩
  have HL : Hid (l.length ≤ 30 ∧ ∀ r ∈ l, Gd r) := by rw [← hll]; exact ⟨fewR_len l0, fun r hr => (fewR_gd hl.wf r hr).2.2⟩
  have HF2 : Hid (∀ W, Below w.heap.size w W → Calls Tryz.prog 6 #[vl, .slice none 0 0] W fun e w' => ∃ a0 c0 v2, e = .returned (.tuple #[.slice a0 l.length c0, v2]) ∧ RtRow 66 w' W.heap.size (.slice a0 l.length c0) l ∧ Below W.heap.size W w') := fun W hW => by
    refine (HF.out W hW).mono ?_
    rintro e w' ⟨v1, v2, rfl, h1, _, hb⟩
    rw [hll] at h1
    have h := h1.at_
    obtain ⟨a0, c0, rfl, _⟩ := h.cells
    exact ⟨a0, c0, v2, rfl, h1, hb⟩
  obtain ⟨k0, n0, s0, kd0⟩ := tv
  obtain ⟨ao0, cap0, rfl⟩ := hv.form
  unfold vval at HTM ⊢
  dsimp only [VT.kind, VT.num, VT.text, VT.kids] at HTM ⊢
  obtain ⟨u, ql⟩ := q
  clear hT hl hv hll HF hq
  go_enter Tryz.func5, Tryz.ntmps5
  go_upto_region 1 with fail
  obtain ⟨W0, hW0⟩ : ∃ W0, W0 = w.alloc (.cells #[.int .i64 k0, .int .i64 n0, .string s0, .slice ao0 kd0.length cap0] 47 (0, 0)) := ⟨_, rfl⟩
  have B0 : Hid (Below w.heap.size w W0) := by show Below _ _ _; rw [hW0]; exact (Below.refl _ _).alloc (Nat.le_refl _) _
  have Z0 : Hid (W0.heap[w.heap.size]? = some (.cells #[.int .i64 k0, .int .i64 n0, .string s0, .slice ao0 kd0.length cap0] 47 (0, 0))) := by show _ = _; rw [hW0]; exact World.alloc_heap_new _ _
  have hs0 : W0.heap.size = w.heap.size + 1 := by rw [hW0]; simp
  have HS0 := Lib.hid hs0
  rw [← hW0]
  clear hW0 hs0
  go_upto_region 2 with ((go_at_call 6; refine (HF2.out _ B0.out).mono ?_; clear HF2; rintro e w1 ⟨a0, c0, vx, rfl, hr1, hb1⟩; have R1 := Lib.hid hr1; have Z1 := Lib.hid ((hb1.block _ (lt_of_block Z0.out)).trans Z0.out); have B1 := Lib.hid (B0.out.trans (hb1.mono B0.out.size)); clear hb1 hr1))
  obtain ⟨x0, x1, x2, x3, x4⟩ := hdr4_cells Z1.out
  clear Z0 B0
  go_upto_region 3 with ((go_at_call 18; refine (HTM.out _ B1.out).mono ?_; clear HTM; rintro e w2 ⟨v2, rfl, hv2, hb2⟩; obtain ⟨a3, c3, rfl⟩ := tame_form hv2; have V2 := Lib.hid hv2; have HB2 := Lib.hid hb2; have R2 := Lib.hid (R1.out.below hb2); have Z2 := Lib.hid ((hb2.block _ (lt_of_block Z1.out)).trans Z1.out); have B2 := Lib.hid (B1.out.trans (hb2.mono B1.out.size)); clear hb2 hv2 x0 x1 x2 x3 x4; obtain ⟨x0, x1, x2, x3, x4⟩ := hdr4_cells Z2.out))
  obtain ⟨wz, hwz⟩ : ∃ wz, wz = ((((w2.setCell ⟨w.heap.size, 0, none⟩ (.int .i64 u.kind)).setCell ⟨w.heap.size, 1, none⟩ (.int .i64 u.num)).setCell ⟨w.heap.size, 2, none⟩ (.string u.text)).setCell ⟨w.heap.size, 3, none⟩ (.slice a3 u.kids.length c3)) := ⟨_, rfl⟩
  obtain ⟨z1, z2⟩ := four_ret (y0 := .int .i64 u.kind) (y1 := .int .i64 u.num) (y2 := .string u.text) (y3 := .slice a3 u.kids.length c3) Z2.out
  rw [← hwz] at z1 z2 ⊢
  clear hwz x0 x1 x2 x3 x4
  have hwe : w1.heap.size ≤ w2.heap.size := HB2.out.size
  have BZ : Hid (Below w.heap.size w wz) := B2.out.trans (z2.below B2.out.size (by simp))
  have hw1 : w.heap.size < w1.heap.size := lt_of_block Z1.out
  have VZ : Hid (ValIs wz (fun b => b < wz.heap.size) u (vval u a3 c3)) := (V2.out.chg z2 (fun b hb => ⟨hb.2, by have := hb.1; simp; omega⟩)).mono fun b hb => Nat.lt_of_lt_of_le hb.2 z2.size
  have RZ : Hid (RtAt wz (.slice a0 l.length c0) l) := (R2.out.chg z2 (fun k hk => by have := R2.out.2 k hk; rw [HS0.out] at this; simp; omega)).at_
  have Z3 := Lib.hid z1
  clear z1 z2 hwe hw1 B2 V2 R2 HB2 Z2 Z1 R1 B1
  obtain ⟨D, hD⟩ : ∃ D, dirT l = D := ⟨_, rfl⟩
  have HD1 : Hid (∀ W v, RtAt W v l → Calls Tryz.prog 19 #[v] W (DirEnd W D)) := fun W v h => by rw [← hD]; exact dir_any W v l h (by have := HL.out.1; omega) HL.out.2
  have HD2 : Hid (∀ W v, RtAt W v l → Calls Tryz.prog 20 #[v] W (DirEnd W D)) := fun W v h => by rw [← hD]; exact refDir_any W v l h (by have := HL.out.1; omega) HL.out.2
  have HTR : Hid (∀ W v, RtAt W v l → Calls Tryz.prog 9 #[v] W fun e w' => ∃ v', e = .returned v' ∧ RtAt w' v' l ∧ Below W.heap.size W w') := fun W v h => (toRoots_any W v l h (by have := HL.out.1; omega)).mono fun e w' ⟨v', k1, k2, k3⟩ => ⟨v', k1, k2.at_, k3⟩
  have HBK : Hid (D.2 = 0 → ∃ s, rootsT D.1 = some s ∧ dirT s = D ∧ s.length = l.length ∧ ∀ r ∈ s, r ∈ l) := by rw [← hD]; exact Gr.dir_back
  have HSD : Hid (D.2 = 0 → ∀ out, gather 102 D.1 [] = some out → ∀ r ∈ out, Gd r) := by rw [← hD]; exact fun h => Gr.dir_gather h HL.out.2
  obtain ⟨R, hR⟩ : ∃ R, rootsT u = R := ⟨_, rfl⟩
  have HR1 : Hid (∀ W, wz.heap.size ≤ W.heap.size → Below wz.heap.size wz W → Calls Tryz.prog 21 #[.agg #[.int .i64 u.kind, .int .i64 u.num, .string u.text, .slice a3 u.kids.length c3]] W (RootsEnd 82 W R)) := fun W h hb => by
    rw [← hR]; exact rootsP_any W _ u _ (vlow VZ.out hb) (fun b hb => hb) HGD.out
  have HR2 : Hid (∀ W, wz.heap.size ≤ W.heap.size → Below wz.heap.size wz W → Calls Tryz.prog 22 #[.agg #[.int .i64 u.kind, .int .i64 u.num, .string u.text, .slice a3 u.kids.length c3]] W (RootsEnd 66 W R)) := fun W h hb => by
    rw [← hR]; exact refRoots_any W _ u _ (vlow VZ.out hb) (fun b hb => hb) HGD.out
  have HRL : Hid ((R.getD []).length ≤ 100) := by show _ ≤ _; rw [← hR]; exact Gr.roots_len u
  clear hD hR
  go_upto_region 4 with (first
    | (go_at_call 9; refine (HTR.out _ _ RZ.out).mono ?_; rintro e w3 ⟨v3, rfl, k3, hb3⟩; have K3 := Lib.hid k3; have B3 := Lib.hid hb3; clear k3 hb3)
    | (go_at_call 19; refine (HD1.out _ _ K3.out).mono ?_; rintro e w4 h4; obtain ⟨a5, c5, rfl, hv4, hb4⟩ := h4.form; have V4 := Lib.hid hv4; have B4 := Lib.hid (B3.out.trans (hb4.mono B3.out.size)); clear h4 hv4 hb4 K3 B3))
  obtain ⟨W4, hW4⟩ : ∃ W4, W4 = w4.alloc (.cells #[.int .i64 D.1.kind, .int .i64 D.1.num, .string D.1.text, .slice a5 D.1.kids.length c5] 47) := ⟨_, rfl⟩
  obtain ⟨p5, hp5⟩ : ∃ p, p = w4.heap.size := ⟨_, rfl⟩
  have hb4 : Below w4.heap.size w4 W4 := by rw [hW4]; exact (Below.refl _ _).alloc (Nat.le_refl _) _
  have P5 : Hid (W4.heap[p5]? = some (.cells #[.int .i64 D.1.kind, .int .i64 D.1.num, .string D.1.text, .slice a5 D.1.kids.length c5] 47 (0, 0))) := by show _ = _; rw [hW4, hp5]; exact World.alloc_heap_new _ _
  have V5 : Hid (ValIs W4 (fun b => b < W4.heap.size) D.1 (vval D.1 a5 c5)) := vlow (V4.out.mono fun b hb => hb.2) hb4
  have B5 : Hid (Below wz.heap.size wz W4) := B4.out.trans (hb4.mono B4.out.size)
  have RZ5 := Lib.hid (RZ.out.below B5.out)
  have Z5 := Lib.hid ((B5.out.block _ (lt_of_block Z3.out)).trans Z3.out)
  rw [← hW4, ← hp5]
  clear hW4 hp5 hb4 V4 B4 RZ
  go_upto_region 5 with (go_at_call 20; refine (HD2.out _ _ RZ5.out).mono ?_; rintro e w5 h5; obtain ⟨a7, c7, rfl, hv5, hb5⟩ := h5.form; have V6 := Lib.hid hv5; have P6 := Lib.hid ((hb5.block _ (lt_of_block P5.out)).trans P5.out); have V51 := Lib.hid (vlow V5.out hb5); have R6 := Lib.hid (RZ5.out.below hb5); have Z6 := Lib.hid ((hb5.block _ (lt_of_block Z5.out)).trans Z5.out); have B6 := Lib.hid (B5.out.trans (hb5.mono B5.out.size)); clear h5 hv5 hb5 RZ5 P5 V5 B5 Z5)
  obtain ⟨W5, hW5⟩ : ∃ W5, W5 = w5.alloc (.cells #[.int .i64 D.1.kind, .int .i64 D.1.num, .string D.1.text, .slice a7 D.1.kids.length c7] 47) := ⟨_, rfl⟩
  obtain ⟨p7, hp7⟩ : ∃ p, p = w5.heap.size := ⟨_, rfl⟩
  have hb5 : Below w5.heap.size w5 W5 := by rw [hW5]; exact (Below.refl _ _).alloc (Nat.le_refl _) _
  have P8 : Hid (W5.heap[p7]? = some (.cells #[.int .i64 D.1.kind, .int .i64 D.1.num, .string D.1.text, .slice a7 D.1.kids.length c7] 47 (0, 0))) := by show _ = _; rw [hW5, hp7]; exact World.alloc_heap_new _ _
  have P7 := Lib.hid ((hb5.block _ (lt_of_block P6.out)).trans P6.out)
  have V7 := Lib.hid (vlow V51.out hb5)
  have V8 : Hid (ValIs W5 (fun b => b < W5.heap.size) D.1 (vval D.1 a7 c7)) := vlow (V6.out.mono fun b hb => hb.2) hb5
  have R7 := Lib.hid (R6.out.below hb5)
  have Z7 := Lib.hid ((hb5.block _ (lt_of_block Z6.out)).trans Z6.out)
  have B7 : Hid (Below wz.heap.size wz W5) := B6.out.trans (hb5.mono B6.out.size)
  rw [← hW5, ← hp7]
  clear hW5 hp7 hb5 P6 V51 V6 R6 Z6 B6
  obtain ⟨x0, x1, x2, x3, x4⟩ := hdr4_cells Z7.out
  go_upto_region 6 with (go_at_call 21; refine (HR1.out _ B7.out.size B7.out).mono ?_; rintro e w6 h6; obtain ⟨a9, c9, rfl, hr6, hb6⟩ := h6.form; have R9 := Lib.hid hr6; have B8 := Lib.hid hb6; clear h6 hr6 hb6)
  have BW8 : Hid (Below wz.heap.size wz w6) := B7.out.trans (B8.out.mono B7.out.size)
  have Z8 := Lib.hid ((B8.out.block _ (lt_of_block Z7.out)).trans Z7.out)
  clear x0 x1 x2 x3 x4
  obtain ⟨x0, x1, x2, x3, x4⟩ := hdr4_cells Z8.out
  go_upto_region 7 with (go_at_call 22; refine (HR2.out _ BW8.out.size BW8.out).mono ?_; rintro e w7 h7; obtain ⟨a11, c11, rfl, hr7, hb7⟩ := h7.form; have R11 := Lib.hid hr7; have B9 := Lib.hid hb7; clear h7 hr7 hb7)
  clear x0 x1 x2 x3 x4
  generalize (if R.isSome = true then (0 : Int) else 2) = er
  obtain ⟨L, hL⟩ : ∃ L, R.getD [] = L := ⟨_, rfl⟩
  rw [hL] at R9 R11 ⊢
  have hLL : (L.length : Int) ≤ 100 := by have := HRL.out; rw [hL] at this; omega
  have DS : Hid (DsAt w w7 p5 p7 D.1 a5 a7 c5 c7 L l a9 a11 a0 c9 c11 c0) := by
    have h := B8.out.trans (B9.out.mono B8.out.size)
    exact ⟨(h.block _ (lt_of_block P7.out)).trans P7.out, (h.block _ (lt_of_block P8.out)).trans P8.out, vlow V7.out h, vlow V8.out h, R9.out.below B9.out, R11.out, R7.out.below h, BZ.out.trans ((B7.out.trans (h.mono B7.out.size)).mono BZ.out.size)⟩
  clear hL R9 R11 B9 BW8 Z8 B8 P7 P8 V7 V8 R7 Z7 B7 Z3 VZ BZ HR1 HR2 HD2 HTR HGD
  have HGS : Hid (∀ W, DsAt w W p5 p7 D.1 a5 a7 c5 c7 L l a9 a11 a0 c9 c11 c0 → Calls Tryz.prog 11 #[] W fun e w' => e = .returned (.bool true) ∧ DsAt w w' p5 p7 D.1 a5 a7 c5 c7 L l a9 a11 a0 c9 c11 c0) := fun W s => (HG.out W s.hb).mono fun e w' k => ⟨k.1, s.below k.2⟩
  have HSM : Hid (∀ W, DsAt w W p5 p7 D.1 a5 a7 c5 c7 L l a9 a11 a0 c9 c11 c0 → Calls Tryz.prog 17 #[.agg #[.int .i64 D.1.kind, .int .i64 D.1.num, .string D.1.text, .slice a5 D.1.kids.length c5], .agg #[.int .i64 D.1.kind, .int .i64 D.1.num, .string D.1.text, .slice a7 D.1.kids.length c7]] W fun e w' => e = .returned (.bool true) ∧ DsAt w w' p5 p7 D.1 a5 a7 c5 c7 L l a9 a11 a0 c9 c11 c0) := fun W s =>
    (refSame_walk D.1.sz D.1 D.1 _ _ _ _ (Nat.le_refl _) s.v5 s.v7 (fun b hb => hb)).mono fun e W' h' => ⟨h'.1.trans (by rw [VT.same_refl]), s.below h'.2⟩
  have HFR : Hid (∀ W, DsAt w W p5 p7 D.1 a5 a7 c5 c7 L l a9 a11 a0 c9 c11 c0 → Calls Tryz.prog 23 #[.slice a9 L.length c9] W fun e w' => ∃ v', e = .returned v' ∧ RtAt w' v' L ∧ DsAt w w' p5 p7 D.1 a5 a7 c5 c7 L l a9 a11 a0 c9 c11 c0) := fun W s =>
    (fromRoots_any W _ L s.r9 (by omega)).mono fun e w' ⟨v', k1, k2, k3⟩ => ⟨v', k1, k2.at_, s.below k3⟩
  go_upto_block 0 with (first
    | (go_at_call 11; refine (HGS.out _ DS.out).mono ?_; clear HGS; rintro e w8 ⟨rfl, s8⟩; have S8 := Lib.hid s8; obtain ⟨⟨x0, x1, x2, x3⟩, y0, y1, y2, y3⟩ := s8.cells; clear s8)
    | (go_at_call 17; refine (HSM.out _ S8.out).mono ?_; clear HSM; rintro e w9 ⟨rfl, s9⟩; have S9 := Lib.hid s9; clear s9))
  clear x0 x1 x2 x3 y0 y1 y2 y3 DS S8
  go_wp2
  go_loopg [13] L.length (fun gk s13 wr => DsLoop w p5 p7 D.1 a5 a7 c5 c7 L l a9 a11 a0 c9 c11 c0 gk s13 wr)
  case atStart => exact ⟨0, rfl, by omega, S9.out⟩
  case round =>
    clear S9
    rename World => wx
    obtain ⟨i, rfl, hi, hs⟩ := hrel
    have HI := Lib.hid hi
    have HS := Lib.hid hs
    have i0 : (0 : Int) ≤ (i : Int) := by omega
    by_cases hlt : i < L.length
    · have i1 : (i : Int) < (L.length : Int) := by omega
      obtain ⟨r, hr⟩ : ∃ r, L[i]? = some r := ⟨_, List.getElem?_eq_getElem hlt⟩
      obtain ⟨b, off, rfl, _⟩ := hs.r11.look hr
      have HC : Hid (∀ W, DsAt w W p5 p7 D.1 a5 a7 c5 c7 L l a9 (some ⟨b, off, none⟩) a0 c9 c11 c0 → W.cell? ⟨b, off + i * 3, none⟩ = some (.string (bytes r.name)) ∧ W.cell? ⟨b, off + i * 3 + 1, none⟩ = some (.string (bytes r.typ)) ∧ W.cell? ⟨b, off + i * 3 + 2, none⟩ = some (.int .i64 r.id)) := fun W s => by
        obtain ⟨b', off', e, h⟩ := s.r11.look hr
        cases e
        exact h
      have HR := Lib.hid hr
      have HLT := Lib.hid hlt
      have HSD2 : Hid (DsAt w wx.drew p5 p7 D.1 a5 a7 c5 c7 L l a9 (some ⟨b, off, none⟩) a0 c9 c11 c0) := hs.below (Below.refl _ _).drew
      have hn : ∀ W, Sem.run Tryz.prog (binOp .neq 66 (.agg #[.string (bytes r.name), .string (bytes r.typ), .int .i64 r.id]) (.agg #[.string (bytes r.name), .string (bytes r.typ), .int .i64 r.id])) W = .ok (.bool false) W := fun W => (rrt_neq r r W).trans (by simp)
      have hg : ∀ (op : BinOp) (a b : Operand) W, Sem.run Tryz.prog (eqGuard op 66 a b (.agg #[.string (bytes r.name), .string (bytes r.typ), .int .i64 r.id]) (.agg #[.string (bytes r.name), .string (bytes r.typ), .int .i64 r.id])) W = .ok () W := fun op a b W => rrt_guard op a b r r W
      clear hr hi hs hlt
      go_wp2
      obtain ⟨c0, c1, c2⟩ := HC.out _ HSD2.out
      go_region_law (first | (refine step_callw (w := wx.drew) (by rfl) 23 #[.slice a9 L.length c9] ?_ (HFR.out wx.drew HSD2.out) ?_; go_simp; rintro e w11 ⟨v', rfl, k1, s⟩; obtain ⟨ar, cr, rfl, hk⟩ := k1.cells; obtain ⟨b2, off2, rfl, _, e0, e1, e2⟩ := hk i r HR.out; have S11 := Lib.hid s; refine ⟨_, rfl, ?_⟩; clear c0 c1 c2; obtain ⟨c0, c1, c2⟩ := HC.out _ s; clear s k1 hk))
      all_goals go_wp2
      all_goals go_roundg (gk - 1)
      all_goals first
        | exact ⟨i + 1, by go_num, by have := HI.out; have := HLT.out; omega, S11.out⟩
        | (have := HI.out; have := HLT.out; omega)
    · have i1 : ¬ (i : Int) < (L.length : Int) := by omega
      clear hi hs hlt
      by_cases hz : D.2 = 0
      · obtain ⟨s, h1, h2, h3, h4⟩ := HBK.out hz
        have HS1 := Lib.hid h1
        have HS2 := Lib.hid h2
        have HS3 := Lib.hid h3
        have hsl : s.length ≤ 30 := by have := HL.out.1; omega
        have hsg : ∀ r ∈ s, Gd r := fun r hr => HL.out.2 r (h4 r hr)
        have HRA : Hid (∀ W, DsAt w W p5 p7 D.1 a5 a7 c5 c7 L l a9 a11 a0 c9 c11 c0 → Calls Tryz.prog 21 #[.agg #[.int .i64 D.1.kind, .int .i64 D.1.num, .string D.1.text, .slice a5 D.1.kids.length c5]] W fun e w' => ∃ a8 c8, e = .returned (.tuple #[.slice a8 s.length c8, .int .i64 0]) ∧ RtAt w' (.slice a8 s.length c8) s ∧ DsAt w w' p5 p7 D.1 a5 a7 c5 c7 L l a9 a11 a0 c9 c11 c0) := fun W k => by
          refine (rootsP_any W _ D.1 _ k.v5 (fun b hb => hb) (HSD.out hz)).mono ?_
          intro e w' h
          obtain ⟨a8, c8, h5, h6, h7⟩ := h.form
          rw [HS1.out] at h5 h6
          exact ⟨a8, c8, h5, h6, k.below h7⟩
        have HDS : Hid (∀ W v, DsAt w W p5 p7 D.1 a5 a7 c5 c7 L l a9 a11 a0 c9 c11 c0 → RtAt W v s → Calls Tryz.prog 19 #[v] W fun e w' => ∃ a14 c14, e = .returned (.tuple #[.agg #[.int .i64 D.1.kind, .int .i64 D.1.num, .string D.1.text, .slice a14 D.1.kids.length c14], .int .i64 0]) ∧ ValIs w' (fun b => b < w'.heap.size) D.1 (vval D.1 a14 c14) ∧ DsAt w w' p5 p7 D.1 a5 a7 c5 c7 L l a9 a11 a0 c9 c11 c0) := fun W v k h => by
          refine (dir_any W v s h (by omega) hsg).mono ?_
          intro e w' h
          rw [HS2.out] at h
          obtain ⟨a8, c8, h5, h6, h7⟩ := h.form
          rw [hz] at h5
          exact ⟨a8, c8, h5, h6.mono (fun b hb => hb.2), k.below h7⟩
        clear h1 h2 h3 h4 hsl hsg HBK HSD
        rw [hz]
        obtain ⟨⟨x0, x1, x2, x3⟩, _⟩ := HS.out.cells
        go_upto_region 18 with (first
          | (go_at_call 21; refine (HRA.out _ HS.out).mono ?_; clear HRA; rintro e w12 ⟨a8, c8, rfl, k1, s12⟩; have K12 := Lib.hid k1; have S12 := Lib.hid s12; clear k1 s12)
          | (go_at_call 19; refine (HDS.out _ _ S12.out K12.out).mono ?_; clear HDS; rintro e w13 ⟨a14, c14, rfl, k1, s13⟩; have K13 := Lib.hid k1; have S13 := Lib.hid s13; clear k1 s13))
        clear x0 x1 x2 x3
        obtain ⟨W14, hW14⟩ : ∃ W, W = w13.alloc (.cells #[.int .i64 D.1.kind, .int .i64 D.1.num, .string D.1.text, .slice a14 D.1.kids.length c14] 47) := ⟨_, rfl⟩
        obtain ⟨p14, hp14⟩ : ∃ p, p = w13.heap.size := ⟨_, rfl⟩
        have hb14 : Below w13.heap.size w13 W14 := by rw [hW14]; exact (Below.refl _ _).alloc (Nat.le_refl _) _
        have P14 : W14.heap[p14]? = some (.cells #[.int .i64 D.1.kind, .int .i64 D.1.num, .string D.1.text, .slice a14 D.1.kids.length c14] 47 (0, 0)) := by rw [hW14, hp14]; exact World.alloc_heap_new _ _
        have S14 := Lib.hid (S13.out.below hb14)
        have V14 := Lib.hid (vlow K13.out hb14)
        rw [← hW14, ← hp14]
        clear hW14 hp14 hb14 K13 S13 S12 K12
        obtain ⟨⟨x0, x1, x2, x3⟩, _⟩ := S14.out.cells
        obtain ⟨y0, y1, y2, y3, _⟩ := hdr4_cells P14
        clear P14
        rw [HS3.out]
        go_wp2_with (go_at_call 17; refine (refSame_walk D.1.sz D.1 D.1 _ _ W14 _ (Nat.le_refl _) S14.out.v5 V14.out (fun b hb => hb)).mono ?_; rintro e w15 ⟨rfl, hb15⟩; rw [VT.same_refl]; have B15 := Lib.hid (S14.out.hb.trans (hb15.mono S14.out.hb.size)); clear hb15)
        go_ret
        exact ⟨rfl, B15.out⟩
      · go_wp2
        go_ret
        exact ⟨rfl, HS.out.hb⟩
end Go.Proofs.YtenikoecnfbfoaaGreatDoor
