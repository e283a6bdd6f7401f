/- Texts of the proof, in build order: GrRRoots. -/
import Derived.Test.YtenikoecnfbfoaaGreatDoorB27
import Derived.Test.YtenikoecnfbfoaaGreatDoorB20
import Derived.Deep.RegionHeld3
import Derived.Test.YtenikoecnfbfoaaGreatDoorB28
/- Layer 8: the document's Roots. -/
namespace Go.Proofs.YtenikoecnfbfoaaGreatDoor
open Go.RowKit
set_option linter.unusedVariables false
set_option linter.unusedSimpArgs false
open Gr (RT gather rootOf rootsT dirT)

theorem same_hsR : ∀ (a b : VT) (va vb : Value) (W : World) (P : Nat → Prop), ValIs W P a va → ValIs W P b vb → (∀ b, P b → b < W.heap.size) → Calls Tryz.prog 17 #[va, vb] W fun e w' => e = .returned (.bool (a.same b)) ∧ Below W.heap.size W w' := fun a b va vb W P => refSame_walk a.sz a b va vb W P (Nat.le_refl _)
set_option maxRecDepth 100000 in
set_option maxHeartbeats 8000000 in
theorem refRoots_any (w : World) (P : Nat → Prop) (v : VT) (vv : Value) (hv : ValIs w P v vv) (hP : ∀ b, P b → b < w.heap.size) (hg : ∀ out, gather 102 v [] = some out → ∀ r ∈ out, Gd r)
    : Calls Tryz.prog 22 #[vv] w (RootsEnd 66 w (rootsT v)) := by
  have HV := Lib.hid hv
  have HP := Lib.hid hP
  have HG := Lib.hid hg
  have HDIR := Lib.hid (fun (l : List RT) (s : Value) (W : World) (h : RtAt W s l) (hl : l.length ≤ 1000000) (hd : ∀ r ∈ l, Gd r) => refDir_any W s l h hl hd)
  obtain ⟨k0, n0, s0, l0⟩ := v
  have hv0 := hv
  unfold ValIs at hv0
  obtain ⟨ao0, cap0, rfl, _⟩ := hv0
  clear hg hv hP
  go_enter Tryz.func22, Tryz.ntmps22
  go_upto_block 0 with (fail)
  have h0 : RsI 66 w P (.node k0 n0 s0 l0) #[.int .i64 k0, .int .i64 n0, .string s0, .slice ao0 l0.length cap0] 102 (.slice none 0 0) ((w.alloc (.cells #[.int .i64 k0, .int .i64 n0, .string s0, .slice ao0 l0.length cap0] 47)).alloc (.cells #[.int .i64 k0, .int .i64 n0, .string s0, .slice ao0 l0.length cap0] 47)) := by
    have hb : Below w.heap.size w ((w.alloc (.cells #[.int .i64 k0, .int .i64 n0, .string s0, .slice ao0 l0.length cap0] 47)).alloc (.cells #[.int .i64 k0, .int .i64 n0, .string s0, .slice ao0 l0.length cap0] 47)) := ((Below.refl _ _).alloc (Nat.le_refl _) _).alloc (by simp) _
    have h2 := World.alloc_heap_new (w.alloc (.cells #[.int .i64 k0, .int .i64 n0, .string s0, .slice ao0 l0.length cap0] 47)) (.cells #[.int .i64 k0, .int .i64 n0, .string s0, .slice ao0 l0.length cap0] 47)
    rw [World.size_alloc] at h2
    exact ⟨k0, n0, s0, l0, ao0, cap0, [], by omega, rfl, RtRow.nil _ _ _, (Below.heap_alloc _ _ _ (by simp)).trans (World.alloc_heap_new _ _), h2, HV.out.below hb HP.out, rfl, hb⟩
  generalize ((w.alloc (.cells #[.int .i64 k0, .int .i64 n0, .string s0, .slice ao0 l0.length cap0] 47)).alloc (.cells #[.int .i64 k0, .int .i64 n0, .string s0, .slice ao0 l0.length cap0] 47)) = W0 at h0 ⊢
  have H0 := Lib.hid h0
  clear h0
  generalize hvc : (#[.int .i64 k0, .int .i64 n0, .string s0, .slice ao0 l0.length cap0] : Array Value) = vc at H0
  have HVC := Lib.hid hvc
  clear hvc
  go_cut [4] (fun s4 wc => RsEnd 66 w (.node k0 n0 s0 l0) vc s4 wc)
  case first =>
    go_wp2
    go_loopg [4] 102 (fun gk s4 wr => RsI 66 w P (.node k0 n0 s0 l0) vc gk s4 wr)
    case atStart => exact H0.out
    case round =>
      obtain ⟨k, n, s, l, ao, cap, out, hgk, hgl, hrow, hbH, hbX, hvi, hga, hbw⟩ := hrel
      obtain ⟨f, rfl⟩ : ∃ f, gk = f + 1 := ⟨gk - 1, by omega⟩
      have HROW := Lib.hid hrow
      have HBH := Lib.hid hbH
      have HBX := Lib.hid hbX
      have HVI := Lib.hid hvi
      have HGA := Lib.hid hga
      have HBW := Lib.hid hbw
      have HGL := Lib.hid hgl
      obtain ⟨a4, c4, e4, _⟩ := hrow.at_
      subst e4
      obtain ⟨q0, q1, q2, q3, q4⟩ := hdr4_cells hbX
      have ol : (out.length : Int) ≤ 101 := by omega
      clear hgk hgl hrow hbH hbX hvi hga hbw
      by_cases hst : k = 3 ∧ n = 1 ∧ l.length = 2 ∧ out.length ≤ 100
      · obtain ⟨rfl, rfl, hl2, ho⟩ := hst
        obtain ⟨t0, y0, rfl⟩ := kids2 hl2
        clear hl2
        have o1 : (out.length : Int) ≤ 100 := by omega
        have hvi := HVI.out
        unfold ValIs at hvi
        obtain ⟨ao', cap', ev, g1, g2, _, _, _, g3, hk⟩ := hvi
        have ev := congrArg (fun v => match v with | Value.agg a => a.toList | _ => []) ev
        simp only [List.cons.injEq, Value.slice.injEq, List.length_cons, List.length_nil] at ev
        obtain ⟨-, -, -, ⟨rfl, -, rfl⟩, -⟩ := ev
        obtain ⟨b, off, -, -, -, -, rfl, -⟩ := hk.get (i := 0) rfl
        obtain ⟨hPb, ta, tc, t0', t1', t2', t3', htv⟩ := hk.cells (i := 0) rfl
        obtain ⟨-, ya, yc, y0', y1', y2', y3', hyv⟩ := hk.cells (i := 1) rfl
        simp only [Nat.add_zero, Nat.zero_add, Nat.zero_mul, Nat.one_mul] at t0' t1' t2' t3' y0' y1' y2' y3'
        obtain ⟨kt, nt, st, lt⟩ := t0
        obtain ⟨ky, ny, sy, ly⟩ := y0
        unfold vval at htv hyv
        simp only [VT.kind, VT.num, VT.text, VT.kids] at t0' t1' t2' t3' y0' y1' y2' y3' htv hyv
        have HTV := Lib.hid htv
        have HYV := Lib.hid hyv
        have HPB := Lib.hid (HP.out b hPb)
        have HHO := Lib.hid ho
        clear htv hyv hk g1 g2 g3 hPb ho
        by_cases h3 : lt.length = 3
        · obtain ⟨xa, xb, xc, rfl⟩ := kids3 h3
          clear h3
          have hvt := HTV.out
          unfold ValIs at hvt
          obtain ⟨ao', cap', ev, g1, g2, _, _, _, g3, hk⟩ := hvt
          have ev := congrArg (fun v => match v with | Value.agg a => a.toList | _ => []) ev
          simp only [List.cons.injEq, Value.slice.injEq, List.length_cons, List.length_nil] at ev
          obtain ⟨-, -, -, ⟨rfl, -, rfl⟩, -⟩ := ev
          obtain ⟨bt, offt, -, -, -, -, rfl, -⟩ := hk.get (i := 0) rfl
          obtain ⟨hPt, _, _, _, _, a2, _, _⟩ := hk.cells (i := 0) rfl
          obtain ⟨_, _, _, _, _, b2, _, _⟩ := hk.cells (i := 1) rfl
          obtain ⟨_, _, _, _, c1, _, _, _⟩ := hk.cells (i := 2) rfl
          simp only [Nat.add_zero, Nat.zero_add, Nat.zero_mul, Nat.one_mul, Nat.reduceAdd, Nat.reduceMul] at a2 b2 c1
          have HPT := Lib.hid (HP.out bt hPt)
          have HGN := Lib.hid (HGA.out.trans (Gr.gather_go HHO.out))
          generalize hR : rootOf xa xb xc = r at HGN
          have hr1 : bytes r.name = xa.text := by subst hR; exact text_bytes _
          have hr2 : bytes r.typ = xb.text := by subst hR; exact text_bytes _
          have hr3 : r.id = xc.num := by subst hR; rfl
          rw [← hr1] at a2
          rw [← hr2] at b2
          rw [← hr3] at c1
          clear hR hr1 hr2 hr3 hk g1 g2 g3 hPt
          have hS3 : ∀ W, Below (w.heap.size + 2) wr W → W.cell? ⟨bt, offt + 2, none⟩ = some (.string (bytes r.name)) ∧ W.cell? ⟨bt, offt + 4 + 2, none⟩ = some (.string (bytes r.typ)) ∧ W.cell? ⟨bt, offt + 8 + 1, none⟩ = some (.int .i64 r.id) := fun W hW =>
            ⟨(hW.cell (p := ⟨bt, offt + 2, none⟩) (Nat.lt_of_lt_of_le HPT.out (by omega))).trans a2, (hW.cell (p := ⟨bt, offt + 4 + 2, none⟩) (Nat.lt_of_lt_of_le HPT.out (by omega))).trans b2, (hW.cell (p := ⟨bt, offt + 8 + 1, none⟩) (Nat.lt_of_lt_of_le HPT.out (by omega))).trans c1⟩
          have HS3 := Lib.hid hS3
          clear hS3
          have hsz : w.heap.size + 2 ≤ wr.heap.size := by have := lt_of_block HBX.out; omega
          have HSZ := Lib.hid hsz
          clear hsz
          go_wp2
          have hbt := World.alloc_heap_new wr (.cells #[.int .i64 kt, .int .i64 nt, .string st, .slice (some ⟨bt, offt, none⟩) 3 tc] 47)
          have hbw1 : Below (w.heap.size + 2) wr (wr.alloc (.cells #[.int .i64 kt, .int .i64 nt, .string st, .slice (some ⟨bt, offt, none⟩) 3 tc] 47)) := (Below.refl _ _).alloc HSZ.out _
          have hrow1 := HROW.out.below ((Below.refl _ _).alloc (Nat.le_refl _) (.cells #[.int .i64 kt, .int .i64 nt, .string st, .slice (some ⟨bt, offt, none⟩) 3 tc] 47))
          generalize wr.alloc (.cells #[.int .i64 kt, .int .i64 nt, .string st, .slice (some ⟨bt, offt, none⟩) 3 tc] 47) = wr1 at hbt hbw1 hrow1 ⊢
          have hnb : ∀ k, (Value.slice a4 out.length c4).ownBlock = some k → k < wr.heap.size := fun k hk => HROW.out.1.lt hk
          have hS4 : ∀ W, W.heap[wr.heap.size]? = wr1.heap[wr.heap.size]? → Below (w.heap.size + 2) wr W → W.cell? ⟨wr.heap.size, 3, none⟩ = some (.slice (some ⟨bt, offt, none⟩) 3 tc) ∧ W.cell? ⟨bt, offt + 2, none⟩ = some (.string (bytes r.name)) ∧ W.cell? ⟨bt, offt + 4 + 2, none⟩ = some (.string (bytes r.typ)) ∧ W.cell? ⟨bt, offt + 8 + 1, none⟩ = some (.int .i64 r.id) := fun W h1 h2 =>
            ⟨by unfold World.cell?; rw [h1, hbt]; rfl, HS3.out W h2⟩
          generalize hBt : wr.heap.size = Bt at hS4 hbt hnb ⊢
          have hl1 := lt_of_block hbt
          have HS4 := Lib.hid hS4
          have HR1 := Lib.hid hrow1
          have HB1 := Lib.hid hbw1
          have HNB := Lib.hid hnb
          have HL1 := Lib.hid hl1
          have HSZ1 : Hid (w.heap.size + 2 ≤ wr1.heap.size) := Nat.le_trans HSZ.out HB1.out.size
          have HSA : Hid (∀ o, (wr1.drew.alloc o).cell? ⟨Bt, 3, none⟩ = some (.slice (some ⟨bt, offt, none⟩) 3 tc) ∧ (wr1.drew.alloc o).cell? ⟨bt, offt + 2, none⟩ = some (.string (bytes r.name)) ∧ (wr1.drew.alloc o).cell? ⟨bt, offt + 4 + 2, none⟩ = some (.string (bytes r.typ)) ∧ (wr1.drew.alloc o).cell? ⟨bt, offt + 8 + 1, none⟩ = some (.int .i64 r.id)) := fun o => HS4.out _ (Below.heap_alloc _ _ _ HL1.out) (HB1.out.trans ((Below.refl _ _).drew.alloc HSZ1.out _))
          clear hS4 hrow1 hbw1 hnb hl1 hbt a2 b2 c1
          go_region_held3 (fun w' => w'.cell? ⟨Bt, 3, none⟩ = some (.slice (some ⟨bt, offt, none⟩) 3 tc) ∧ w'.cell? ⟨bt, offt + 2, none⟩ = some (.string (bytes r.name)) ∧ w'.cell? ⟨bt, offt + 4 + 2, none⟩ = some (.string (bytes r.typ)) ∧ w'.cell? ⟨bt, offt + 8 + 1, none⟩ = some (.int .i64 r.id))
            (first | exact HS4.out _ rfl HB1.out.drew | exact HSA.out _ | exact HS9.out)
            (first
              | (refine step_root (w := wr1.drew.alloc (.cells #[.string (bytes r.name), .string (bytes r.typ), .int .i64 r.id] 66)) (N := w.heap.size + 2) (l := out) (r := r) (v := .slice a4 out.length c4) (ad := ⟨wr1.heap.size, 0, none⟩) (c := 1) Tryz.underlying22 infoRt8 rfl _ _ rfl rfl ((HR1.out.below (Below.refl _ _).drew).below ((Below.refl _ _).alloc (Nat.le_refl _) _)) rfl (cell_three_new wr1.drew _ _ _ _) (by have := HSZ1.out; simp; omega) (by omega) ?_; intro a9 c9 w9 hr9 hb9 hc9; have HR9 := Lib.hid hr9; have hb19 := HB1.out.trans (((Below.refl _ _).drew.alloc HSZ1.out _).trans hb9); have HS9 := Lib.hid (HS4.out w9 ((hc9.block Bt (by have := HL1.out; simp; omega) (fun h => by have := HNB.out Bt (by simpa using h); omega)).trans (Below.heap_alloc _ _ _ HL1.out)) hb19); have HB9 := Lib.hid hb19; clear hr9 hb9 hc9 hb19))
          have hb9 := HB9.out
          have hbX9 := (hb9.block (w.heap.size + 1) (by omega)).trans HBX.out
          clear q0 q1 q2 q3 q4
          obtain ⟨q0, q1, q2, q3, q4⟩ := hdr4_cells hbX9
          replace y0' := (hb9.cell (p := ⟨b, off + 4, none⟩) (Nat.lt_of_lt_of_le HPB.out (by omega))).trans y0'
          replace y1' := (hb9.cell (p := ⟨b, off + 4 + 1, none⟩) (Nat.lt_of_lt_of_le HPB.out (by omega))).trans y1'
          replace y2' := (hb9.cell (p := ⟨b, off + 4 + 2, none⟩) (Nat.lt_of_lt_of_le HPB.out (by omega))).trans y2'
          replace y3' := (hb9.cell (p := ⟨b, off + 4 + 3, none⟩) (Nat.lt_of_lt_of_le HPB.out (by omega))).trans y3'
          have HBX9 := Lib.hid hbX9
          clear hb9 hbX9 t0' t1' t2' t3'
          go_wp2
          obtain ⟨z1, z2⟩ := four_ret (y0 := .int .i64 ky) (y1 := .int .i64 ny) (y2 := .string sy) (y3 := .slice ya ly.length yc) HBX9.out
          generalize ((((World.setCell _ _ _).setCell _ _).setCell _ _).setCell _ _) = wz at z1 z2 ⊢
          have HZ1 := Lib.hid z1
          have HZ2 := Lib.hid z2
          clear z1 z2 q0 q1 q2 q3 q4 y0' y1' y2' y3'
          go_roundg f
          case measure => omega
          case rel =>
            have g1 := HGL.out
            have g2 := HHO.out
            exact ⟨ky, ny, sy, ly, ya, yc, out ++ [r], by omega, by rw [List.length_append, List.length_singleton]; omega, HR9.out.chg HZ2.out (fun k hk e => by have := HR9.out.2 k hk; simp at e; omega), (HZ2.out.block _ (Nat.lt_of_lt_of_le (by have := HSZ.out; omega) HB9.out.size) (by simp)).trans ((HB9.out.block _ (by omega)).trans HBH.out), HZ1.out,
              (HYV.out.below HB9.out (fun b hb => Nat.lt_of_lt_of_le (HP.out b hb) (by omega))).chg HZ2.out (fun b hb => ⟨by have := HP.out b hb; have := HB9.out.size; have := HSZ.out; omega, by have := HP.out b hb; simp; omega⟩), HGN.out,
              (HBW.out.trans (HB9.out.mono (by omega))).trans (HZ2.out.below (Nat.le_trans HBW.out.size HB9.out.size) (by simp))⟩
        · have h3i : ¬ (lt.length : Int) = 3 := by omega
          have h3b : ((lt.length : Int) == 3) = false := by simpa using h3i
          have h3c : ((lt.length : Int) != 3) = true := by simpa using h3i
          have HNO : Hid (rootsT (.node k0 n0 s0 l0) = none) := by show _ = _; unfold rootsT; rw [HGA.out, Gr.gather_bad HHO.out h3]
          clear h3 h3i
          go_wp2
          go_ret2
          refine ⟨.slice none 0 0, ?_, fun o ho => ?_, fun hn => ?_, ?_⟩
          · rw [HNO.out]; rfl
          · rw [HNO.out] at ho; cases ho
          · rfl
          · exact HBW.out.alloc HBW.out.size _
      · have HEND := Lib.hid (HGA.out.trans (Gr.gather_stop hst))
        have HFIN : Hid (RsEnd 66 w (.node k0 n0 s0 l0) vc (.slice a4 out.length c4) wr) := ⟨a4, c4, out, rfl, HEND.out, by omega, HROW.out, HBH.out, HBW.out⟩
        have HF2 : Hid (∀ nq, RsEnd 66 w (.node k0 n0 s0 l0) vc (.slice a4 out.length c4) (wr.drewN nq)) := fun nq => ⟨a4, c4, out, rfl, HEND.out, by omega, HROW.out.below (below_drewN (Below.refl _ _) _), HBH.out, below_drewN HBW.out _⟩
        have st : ¬ k = 3 ∨ (k = 3 ∧ ¬ n = 1) ∨ (k = 3 ∧ n = 1 ∧ ¬ l.length = 2) ∨ (k = 3 ∧ n = 1 ∧ l.length = 2 ∧ ¬ out.length ≤ 100) := by omega
        clear hst HEND HGA HVI
        rcases st with h1 | ⟨rfl, h1⟩ | ⟨rfl, rfl, h1⟩ | ⟨rfl, rfl, h2, h1⟩
        · have e1 : (k == 3) = false := by simpa using h1
          clear h1
          go_wp2
          all_goals (go_meet; exact HFIN.out)
        · have e1 : (n == 1) = false := by simpa using h1
          clear h1
          go_wp2
          all_goals (go_meet; exact HFIN.out)
        · have h1i : ¬ (l.length : Int) = 2 := by omega
          have e1 : ((l.length : Int) == 2) = false := by simpa using h1i
          clear h1 h1i
          go_wp2
          all_goals (go_meet; exact HFIN.out)
        · have h2i : (l.length : Int) = 2 := by omega
          have h1i : ¬ (out.length : Int) ≤ 100 := by omega
          have e2 : ((l.length : Int) == 2) = true := by simpa using h2i
          clear h1 h2 h2i
          go_wp2
          all_goals (go_meet; exact HFIN.out)
  case rest =>
    obtain ⟨a4, c4, out, rfl, hga, hol, hrow, hbH, hbw⟩ := hcut
    have HD := Lib.hid (HDIR.out out _ wc hrow.at_ (by omega) (HG.out out hga))
    have HGA := Lib.hid hga
    have HROW := Lib.hid hrow
    have HBW := Lib.hid hbw
    have hx := HVC.out
    subst hx
    have HBH := Lib.hid hbH
    clear HDIR HG hga hrow hbH hbw HVC H0
    obtain ⟨er, her⟩ : ∃ er, (dirT out).2 = er := ⟨_, rfl⟩
    unfold DirEnd at HD
    rw [her] at HD
    have HER := Lib.hid her
    clear her
    by_cases h0 : er = 0
    · subst h0
      cases hsm : (VT.node k0 n0 s0 l0).same (dirT out).1
      all_goals
        have HSM := Lib.hid hsm
        clear hsm
        go_wp2_with (first
          | (go_at_call 20; refine HD.out.mono ?_; rintro e w5 ⟨vd, rfl, hvd, hb5⟩; obtain ⟨ad, cd, hvd2⟩ := hvd.form; subst hvd2; have zH := (hb5.block w.heap.size (lt_of_block HBH.out)).trans HBH.out; have pz := fun o => later_box zH o; have HVD := Lib.hid hvd; have HB5 := Lib.hid hb5; clear hvd hb5 zH; unfold vval at HVD ⊢; generalize hvk : (dirT out).1.kind = dk at *; generalize hvn : (dirT out).1.num = dn at *; generalize hvt : (dirT out).1.text = dt at *; generalize hvl : (dirT out).1.kids.length = dl at *; clear hvk hvn hvt hvl)
          | (go_at_call 17; refine (same_two same_hsR HV.out HP.out HBW.out HB5.out HVD.out _).mono ?_; rw [HSM.out]; rintro e w7 ⟨rfl, hb7⟩; have HB7 := Lib.hid hb7; clear hb7))
      · have HNO : Hid (rootsT (.node k0 n0 s0 l0) = none) := by show _ = _; unfold rootsT; rw [HGA.out]; simp only; rw [if_neg (fun h => by rw [HSM.out] at h; cases h.2)]
        go_ret2
        refine ⟨.slice none 0 0, ?_, fun o ho => ?_, fun hn => ?_, ?_⟩
        · rw [HNO.out]; rfl
        · rw [HNO.out] at ho; cases ho
        · rfl
        · exact ((HBW.out.trans (HB5.out.mono HBW.out.size)).alloc (Nat.le_trans HBW.out.size HB5.out.size) _).trans (HB7.out.mono (by have := HBW.out.size; have := HB5.out.size; simp; omega))
      · have HYES : Hid (rootsT (.node k0 n0 s0 l0) = some out) := by show _ = _; unfold rootsT; rw [HGA.out]; simp only; rw [if_pos ⟨HER.out, HSM.out⟩]
        go_ret2
        have hb6 : Below wc.heap.size wc w7 := (HB5.out.alloc HB5.out.size _).trans (HB7.out.mono (by have := HB5.out.size; simp; omega))
        refine ⟨.slice a4 out.length c4, ?_, fun o ho => ?_, fun hn => ?_, ?_⟩
        · rw [HYES.out]; rfl
        · rw [HYES.out] at ho; cases ho; exact (HROW.out.below hb6).mono (by omega)
        · rw [HYES.out] at hn; cases hn
        · exact HBW.out.trans (hb6.mono HBW.out.size)
    · have k1 : (er == 0) = false := by simpa using h0
      have k2 : (er != 0) = true := by simpa using h0
      have HNO : Hid (rootsT (.node k0 n0 s0 l0) = none) := by show _ = _; unfold rootsT; rw [HGA.out]; simp only; rw [if_neg (fun h => h0 (HER.out ▸ h.1))]
      clear h0
      go_wp2_with (go_at_call 20; refine HD.out.mono ?_; rintro e w5 ⟨vd, rfl, hvd, hb5⟩; obtain ⟨ad, cd, hvd2⟩ := hvd.form; subst hvd2; have HVD := Lib.hid hvd; have HB5 := Lib.hid hb5; clear hvd hb5; unfold vval)
      go_ret2
      refine ⟨.slice none 0 0, ?_, fun o ho => ?_, fun hn => ?_, ?_⟩
      · rw [HNO.out]; rfl
      · rw [HNO.out] at ho; cases ho
      · rfl
      · exact (HBW.out.trans (HB5.out.mono HBW.out.size)).alloc (Nat.le_trans HBW.out.size HB5.out.size) _
end Go.Proofs.YtenikoecnfbfoaaGreatDoor
