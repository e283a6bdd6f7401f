/- The walk of HeapMoves. -/
import Derived.Test.YtlbiapgikkjooaaMvOpen
import Derived.Test.YtlbiapgikkjooaaMvBad
import Derived.Test.YtlbiapgikkjooaaMvCs
import Derived.Test.YtlbiapgikkjooaaMvCb
import Derived.Test.YtlbiapgikkjooaaMvCc
import Derived.Deep.CutBlock
import Derived.Test.YtlbiapgikkjooaaNil
import Derived.Test.YtlbiapgikkjooaaHeaps
import Derived.Test.YtlbiapgikkjooaaEnd
namespace Go.Proofs.Ytlbiapgikkjooaa
open Go.RowKit Go.Maps Hp
set_option linter.unusedSimpArgs false
set_option linter.unusedSectionVars false
set_option linter.unusedVariables false

theorem infoHp : (Try.prog.info? 60).map (fun i => (i.zero, i.size, i.bytes)) = some (some (.agg #[.int .i64 0, .slice none 0 0, .slice none 0 0, .slice none 0 0]), 4, 80) := by kernel_rfl
section
variable {N : Nat} {w0 w w' : World} {p q : Nat}
theorem mine_cells {m : Nat} {A : AH} {φ : Nat → Nat} (h : Mine N w0 p A φ m w) : Calls Try.prog 32 #[.pointer (some ⟨p, 0, none⟩)] w fun e w' => e = .returned (.int .i64 A.limit) ∧ w = w' := by
  obtain ⟨F, h1, _⟩ := h
  exact at_cells h1
theorem one_start {n : Nat} (h : Mine N w0 p (AH.empty n) (fun _ => 0) 0 w) : One ⟨N, none⟩ w0 p w.heap.size 0 0 (AH.empty n) (w.alloc (.cells #[.int .i64 n, .slice none 0 0, .slice none 0 0, .slice none 0 0] 60)) := by
  obtain ⟨F, h1, h2, h3, h4⟩ := h
  have hc : Chg [] w (w.alloc (.cells #[.int .i64 n, .slice none 0 0, .slice none 0 0, .slice none 0 0] 60)) := (Chg.refl [] w).alloc _
  refine ⟨fun _ => 0, F, _, [], [], h1.rowsR.chg hc (by simp), ⟨.slice none 0 0, .slice none 0 0, .slice none 0 0, ⟨heap_alloc_new w _, RowZ.nil _ _ _, RowZ.nil _ _ _, RowZ.nil _ _ _, (fun x hx => by cases hx), (by simp [Value.ownBlock]), (by simp [Value.ownBlock]), (by simp [Value.ownBlock]), (fun k hk => by simp [Value.ownBlock] at hk), (fun k hk => by simp [Value.ownBlock] at hk), (fun x hx => by cases hx)⟩, rfl⟩, ⟨rfl, fun k => rfl, by simp, Nat.le_refl _, Nat.le_refl _, Nat.le_refl _, (fun o ho => by cases ho)⟩, fun k hk => ⟨h2 k hk, fun hm => ?_⟩, fun k hk => (show N ≤ k from ?_), h3.trans (hc.below h4 (by simp)), Nat.le_trans h4 hc.size, (fun b o ho => by cases ho)⟩
  · have := h1.lt hk
    rcases mem_rfoot.1 hm with e | e | e | e | ⟨x, hx, e⟩
    · omega
    · simp [Value.ownBlock] at e
    · simp [Value.ownBlock] at e
    · simp [Value.ownBlock] at e
    · cases hx
  · rcases mem_rfoot.1 hk with e | e | e | e | ⟨x, hx, e⟩
    · omega
    · simp [Value.ownBlock] at e
    · simp [Value.ownBlock] at e
    · simp [Value.ownBlock] at e
    · cases hx
def MvLoop (N : Nat) (w0 : World) (p q n len : Nat) (gk : Nat) (s10 : Value) (wr : World) : Prop :=
  ∃ (i : Nat) (A : AH), s10 = .int .i64 i ∧ i ≤ 60 ∧ i ≤ len ∧ i + gk = min len 60 ∧ A.limit = n ∧ One ⟨N, none⟩ w0 p q i i A wr
set_option maxRecDepth 100000 in
set_option maxHeartbeats 60000000 in
theorem heapMoves_walk (n : Int) (l : List Mv) (ao : Option Addr) (cap : Nat) (W : World) (hl : MvAt W l ao) (hcap : l.length ≤ cap ∧ cap ≤ maxLen) :
    Calls Try.prog 8 #[.int .i64 n, .slice ao l.length cap] W fun e w' => e = .returned (.bool true) ∧ Below W.heap.size W w' := by
  have hlen : (l.length : Int) ≤ 9223372036854775807 := by have := hcap; unfold maxLen at this; omega
  have HL := Lib.hid hl
  have HB0 : Hid (Below W.heap.size W W) := Below.refl _ _
  clear hl hcap
  by_cases hbad : n < 0 ∨ 4194304 < n
  · exact heapMoves_bad n l.length cap ao W hbad
  · obtain ⟨nn, rfl⟩ : ∃ k : Nat, n = k := ⟨n.toNat, by omega⟩
    have h1 : ¬ (nn : Int) < 0 := by omega
    have h2 : ¬ (4194304 : Int) < (nn : Int) := by omega
    have d1 : decide ((nn : Int) < 0) = false := decide_eq_false h1
    have d2 : decide ((4194304 : Int) < (nn : Int)) = false := decide_eq_false h2
    have HNN : Hid (nn ≤ 4194304) := by show nn ≤ _; omega
    clear hbad
    go_enter Try.func8, Try.ntmps8
    go_wp2_with
      (first
      | (go_at_call 31; refine (none_any _).mono ?_; rintro e w' ⟨rfl, rfl⟩)
      | (go_at_call 15; refine (nil_push _ _).mono ?_; rintro e w' ⟨rfl, rfl⟩)
      | (go_at_call 17; refine (nil_drop _ _).mono ?_; rintro e w' ⟨rfl, rfl⟩)
      | (go_at_call 20; refine (nil_pin _ _ _).mono ?_; rintro e w' ⟨rfl, rfl⟩)
      | (go_at_call 24; refine (nil_unpin _ _).mono ?_; rintro e w' ⟨rfl, rfl⟩)
      | (go_at_call 23; refine (nil_set _ _).mono ?_; rintro e w' ⟨rfl, ns, rfl⟩)
      | (go_at_call 22; refine (nil_pinned _ _).mono ?_; rintro e w' ⟨rfl, rfl⟩)
      | (go_at_call 10; refine (heaps_any _).mono ?_; rintro e w3 ⟨rfl, hb3⟩; have HB3 := Lib.hid hb3; clear hb3)
      | (go_at_call 16; refine (nil_make _ _ _).mono ?_; rintro e w' ⟨rfl, rfl⟩)
      | (go_at_call 26; refine (nil_raw _ _ _).mono ?_; rintro e w' ⟨rfl, rfl⟩)
      | (go_at_call 19; refine (nil_height _).mono ?_; rintro e w' ⟨rfl, rfl⟩)
      | (go_at_call 18; refine (nil_live _).mono ?_; rintro e w' ⟨rfl, rfl⟩)
      | (go_at_call 32; refine (nil_cells _).mono ?_; rintro e w' ⟨rfl, rfl⟩)
      | (go_at_call 27; refine (nil_pop _).mono ?_; rintro e w' ⟨rfl, np, rfl⟩)
      | (go_at_call 9; refine (imm_any _ _).mono ?_; rintro e w' ⟨rfl, rfl⟩))
    refine (mine_new _ nn HNN.out rfl).mono ?_
    rintro e w4 ⟨p, rfl, hm4⟩
    have HBW : Hid (Below W.heap.size W (w3.drewN np)) := below_drewN ((below_drewN (Below.refl _ _) ns).trans (HB3.out.mono (Nat.le_refl _))) np
    generalize w3.drewN np = w5 at *
    have HM4 := Lib.hid hm4
    clear hm4
    go_wp2_with (go_at_call 32; refine (mine_cells HM4.out).mono ?_; rintro e w' ⟨rfl, rfl⟩; show _; simp only [AH.empty])
    have HL0 : Hid (MvLoop w5.heap.size w5 p w4.heap.size nn l.length (min l.length 60) (.int .i64 0) (w4.alloc (.cells #[.int .i64 nn, .slice none 0 0, .slice none 0 0, .slice none 0 0] 60))) := ⟨0, AH.empty nn, rfl, by omega, by omega, by omega, rfl, one_start HM4.out⟩
    generalize w4.heap.size = q at *
    generalize w4.alloc (.cells #[.int .i64 nn, .slice none 0 0, .slice none 0 0, .slice none 0 0] 60) = w6 at *
    clear HM4 HB3
    go_loopg [10] (min l.length 60) (fun gk s10 wr => MvLoop w5.heap.size w5 p q nn l.length gk s10 wr)
    case atStart => exact HL0.out
    case round =>
      clear HL0
      obtain ⟨i, A, rfl, hi60, hil, hig, hlim, hone⟩ := hrel
      have i0 : (0 : Int) ≤ (i : Int) := by omega
      have HIG := Lib.hid hig
      have HI60 := Lib.hid hi60
      have HLIM := Lib.hid hlim
      have HONE := Lib.hid hone
      have HBR : Hid (Below W.heap.size W wr) := HBW.out.trans (HONE.out.below.1.mono HBW.out.size)
      by_cases hlt : i < l.length ∧ i < 60
      · obtain ⟨hl1, hl2⟩ := hlt
        have i1 : (i : Int) < (l.length : Int) := by omega
        have d3 : decide (i < l.length) = true := decide_eq_true hl1
        have d4 : (i : Int) < 60 := by omega
        have d5 : decide ((i : Int) < 60) = true := decide_eq_true d4
        obtain ⟨x, hx⟩ : ∃ x, l[i]? = some x := ⟨_, List.getElem?_eq_getElem hl1⟩
        obtain ⟨b, off, hao, hbl, x0, x1, x2, x3, x4, x5, hkw, htx⟩ := HL.out i x hx
        subst hao
        have y0 := (HBR.out.cell (p := ⟨b, off + i * 6, none⟩) hbl).trans x0
        have y1 := (HBR.out.cell (p := ⟨b, off + i * 6 + 1, none⟩) hbl).trans x1
        have y2 := (HBR.out.cell (p := ⟨b, off + i * 6 + 2, none⟩) hbl).trans x2
        have y3 := (HBR.out.cell (p := ⟨b, off + i * 6 + 3, none⟩) hbl).trans x3
        have y4 := (HBR.out.cell (p := ⟨b, off + i * 6 + 4, none⟩) hbl).trans x4
        have y5 := (HBR.out.cell (p := ⟨b, off + i * 6 + 5, none⟩) hbl).trans x5
        have hts : (x.text.size : Int) ≤ 9223372036854775807 := by unfold maxLen at htx; omega
        have HKW := Lib.hid hkw
        clear hig hlim hone x0 x1 x2 x3 x4 x5 hkw htx hx
        go_upto_block 2 with (fail)
        have HX : Hid (One ⟨w5.heap.size, some (wr.heap.size, .cells #[.int .i64 x.what, .int .i64 x.kind, .int .i64 x.n, .int .i64 x.k, .int .i64 x.m, .string x.text] 62)⟩ w5 p q i i A (wr.alloc (.cells #[.int .i64 x.what, .int .i64 x.kind, .int .i64 x.n, .int .i64 x.k, .int .i64 x.m, .string x.text] 62))) := by
          obtain ⟨φ, hD⟩ := HONE.out
          exact ⟨φ, hD.aside _⟩
        clear y0 y1 y2 y3 y4 y5
        obtain ⟨what, kind, xn, xk, xm, text⟩ := x
        simp only at HX HKW hts
        have hbx : wr.heap.size < (wr.alloc (.cells #[.int .i64 what, .int .i64 kind, .int .i64 xn, .int .i64 xk, .int .i64 xm, .string text] 62)).heap.size := by simp
        generalize wr.alloc (.cells #[.int .i64 what, .int .i64 kind, .int .i64 xn, .int .i64 xk, .int .i64 xm, .string text] 62) = wx at *
        generalize wr.heap.size = bx at *
        clear HBR HONE hbl d3 d4 d5 i1
        obtain ⟨NN, hNN⟩ : ∃ NN : Bd, NN = ⟨w5.heap.size, some (bx, .cells #[.int .i64 what, .int .i64 kind, .int .i64 xn, .int .i64 xk, .int .i64 xm, .string text] 62)⟩ := ⟨_, rfl⟩
        have HNX : Hid (NN.x = some (bx, .cells #[.int .i64 what, .int .i64 kind, .int .i64 xn, .int .i64 xk, .int .i64 xm, .string text] 62)) := by rw [hNN]; exact rfl
        have HNN : Hid (NN.n = w5.heap.size) := by rw [hNN]; exact rfl
        rw [← hNN] at HX
        clear hNN
        generalize hkk : (if 200 < (text.size : Int) then (200 : Int) else (text.size : Int)) = kk
        generalize htt : text.extract 0 kk.toNat = tt
        have HTT : Hid (tt.size ≤ 200) := by
          subst htt
          have : (text.extract 0 kk.toNat).size = min kk.toNat text.size - 0 := ByteArray.size_extract
          show _ ≤ 200
          rw [this]
          split at hkk <;> omega
        clear htt hts hkk
        go_cut [] (fun wc => MvNext w5.heap.size w5 p q nn i wc)
        case first =>
          rename_i K3 A6 J1 K2 A5 A4 K1 A3 K0 A2 J0 KP A1 A0
          clear A6 A5 A4 A3 A2
          have HA1 := Lib.hid A1
          clear A1
          have HI3 : Hid (i ≤ 1000 ∧ i < 1000000000) := ⟨by have := HI60.out; omega, by have := HI60.out; omega⟩
          obtain ⟨φ, hD⟩ := HX.out
          have hwf := hD.wf
          have HWF := Lib.hid hwf
          have HSL := Lib.hid HX.out.sizes
          obtain ⟨z0, z1, z2, z3, z4, z5, zb⟩ := box6 (hD.box HNX.out)
          have HD := Lib.hid hD
          clear hD hwf hl1 hl2 d1 d2 h1 h2 hbx zb
          by_cases e12 : what = 12
          · subst e12
            refine use_reg (c' := swc) (by kernel_rfl) ?_
            refine mvcase12 HLIM HKW HX HNN HTT HI3 HWF HSL z0 z1 z2 z3 z4 z5 HD HNX ?_ ?_ A0
            · exact fun _ _ _ _ h => nomatch h.2.1
            · exact HA1
          by_cases e11 : what = 11
          · subst e11
            refine use_reg (c' := swc) (by kernel_rfl) ?_
            refine mvcase11 HLIM HKW HX HNN HTT HI3 HWF HSL z0 z1 z2 z3 z4 z5 HD HNX ?_ ?_ A0
            · exact fun _ _ _ _ h => nomatch h.2.1
            · exact HA1
          by_cases e10 : what = 10
          · subst e10
            refine use_reg (c' := swc) (by kernel_rfl) ?_
            refine mvcase10 HLIM HKW HX HNN HTT HI3 HWF HSL z0 z1 z2 z3 z4 z5 HD HNX ?_ ?_ A0
            · exact fun _ _ _ _ h => nomatch h.2.1
            · exact HA1
          by_cases e9 : what = 9
          · subst e9
            refine use_reg (c' := swc) (by kernel_rfl) ?_
            refine mvcase9 HLIM HKW HX HNN HTT HI3 HWF HSL z0 z1 z2 z3 z4 z5 HD HNX ?_ ?_ A0
            · exact fun _ _ _ _ h => nomatch h.2.1
            · exact HA1
          by_cases e8 : what = 8
          · subst e8
            refine use_reg (c' := swc) (by kernel_rfl) ?_
            refine mvcase8 HLIM HKW HX HNN HTT HI3 HWF HSL z0 z1 z2 z3 z4 z5 HD HNX ?_ ?_ A0
            · exact fun _ _ _ _ h => nomatch h.2.1
            · exact HA1
          by_cases e7 : what = 7
          · subst e7
            refine use_reg (c' := swc) (by kernel_rfl) ?_
            refine mvcase7 HLIM HKW HX HNN HTT HI3 HWF HSL z0 z1 z2 z3 z4 z5 HD HNX ?_ ?_ A0
            · exact fun _ _ _ _ h => nomatch h.2.1
            · exact HA1
          by_cases e6 : what = 6
          · subst e6
            refine use_reg (c' := swc) (by kernel_rfl) ?_
            refine mvcase6 HLIM HKW HX HNN HTT HI3 HWF HSL z0 z1 z2 z3 z4 z5 HD HNX ?_ ?_ A0
            · exact fun _ _ _ _ h => nomatch h.2.1
            · exact HA1
          by_cases e5 : what = 5
          · subst e5
            refine use_reg (c' := swc) (by kernel_rfl) ?_
            refine mvcase5 HLIM HKW HX HNN HTT HI3 HWF HSL z0 z1 z2 z3 z4 z5 HD HNX ?_ ?_ A0
            · exact fun _ _ _ _ h => nomatch h.2.1
            · exact HA1
          by_cases e4 : what = 4
          · subst e4
            refine use_reg (c' := swc) (by kernel_rfl) ?_
            refine mvcase4 HLIM HKW HX HNN HTT HI3 HWF HSL z0 z1 z2 z3 z4 z5 HD HNX ?_ ?_ A0
            · exact fun _ _ _ _ h => nomatch h.2.1
            · exact HA1
          by_cases e3 : what = 3
          · subst e3
            refine use_reg (c' := swc) (by kernel_rfl) ?_
            refine mvcase3 HLIM HKW HX HNN HTT HI3 HWF HSL z0 z1 z2 z3 z4 z5 HD HNX ?_ ?_ A0
            · exact fun _ _ _ _ h => nomatch h.2.1
            · exact HA1
          by_cases e2 : what = 2
          · subst e2
            refine use_reg (c' := swc) (by kernel_rfl) ?_
            refine mvcase2 HLIM HKW HX HNN HTT HI3 HWF HSL z0 z1 z2 z3 z4 z5 HD HNX ?_ ?_ A0
            · exact fun _ _ _ _ h => nomatch h.2.1
            · exact HA1
          by_cases e1 : what = 1
          · subst e1
            refine use_reg (c' := swc) (by kernel_rfl) ?_
            refine mvcase1 HLIM HKW HX HNN HTT HI3 HWF HSL z0 z1 z2 z3 z4 z5 HD HNX ?_ ?_ A0
            · exact fun _ _ _ _ h => nomatch h.2.1
            · exact HA1
          · skip
            refine use_reg (c' := swc) (by kernel_rfl) ?_
            refine mvcase0 HLIM HKW HX HNN HTT HI3 HWF HSL z0 z1 z2 z3 z4 z5 HD HNX e12 e11 e10 e9 e8 e7 e6 e5 e4 e3 e2 e1 ?_ ?_ A0
            · exact fun _ _ _ _ h => nomatch h.2.1
            · exact HA1
        case rest =>
          obtain ⟨A', hl', ho'⟩ := hcut
          have HL' := Lib.hid hl'
          have HO' := Lib.hid ho'
          clear hl' ho'
          go_wp2_with (go_at_call 43; refine (one_all HO'.out (by have := HI60.out; omega)).mono ?_; rintro e w9 ⟨rfl, ho9⟩; have HO9 := Lib.hid ho9; clear ho9)
          go_roundg (gk - 1)
          case measure => have := HIG.out; omega
          case rel => exact ⟨i + 1, A', by go_num, by omega, by omega, by have := HIG.out; omega, HL'.out, HO9.out⟩
      · clear hig hlim hone hi60
        by_cases hl1 : i < l.length
        · have d3 : decide (i < l.length) = true := decide_eq_true hl1
          have d4 : ¬ (i : Int) < 60 := by omega
          have d5 : decide ((i : Int) < 60) = false := decide_eq_false d4
          go_wp2_with
            (first
            | (go_at_call 18; refine (one_live HONE.out (by have := HI60.out; omega) (by have := HI60.out; omega)).mono ?_; rintro e w7 ⟨rfl, ho7⟩; have HO7 := Lib.hid ho7; clear ho7)
            | (go_at_call 42; refine (one_rlive HO7.out (by have := HI60.out; omega)).mono ?_; rintro e w8 ⟨rfl, ho8⟩; have HO8 := Lib.hid ho8; clear ho8)
            | (go_at_call 43; refine (one_all HO8.out (by have := HI60.out; omega)).mono ?_; rintro e w9 ⟨rfl, ho9⟩; have HO9 := Lib.hid ho9; clear ho9))
          go_ret
          exact ⟨rfl, HBW.out.trans (HO9.out.below.1.mono HBW.out.size)⟩
        · have d3 : decide (i < l.length) = false := decide_eq_false hl1
          go_wp2_with
            (first
            | (go_at_call 18; refine (one_live HONE.out (by have := HI60.out; omega) (by have := HI60.out; omega)).mono ?_; rintro e w7 ⟨rfl, ho7⟩; have HO7 := Lib.hid ho7; clear ho7)
            | (go_at_call 42; refine (one_rlive HO7.out (by have := HI60.out; omega)).mono ?_; rintro e w8 ⟨rfl, ho8⟩; have HO8 := Lib.hid ho8; clear ho8)
            | (go_at_call 43; refine (one_all HO8.out (by have := HI60.out; omega)).mono ?_; rintro e w9 ⟨rfl, ho9⟩; have HO9 := Lib.hid ho9; clear ho9))
          go_ret
          exact ⟨rfl, HBW.out.trans (HO9.out.below.1.mono HBW.out.size)⟩
end
end Go.Proofs.Ytlbiapgikkjooaa
