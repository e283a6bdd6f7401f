/- The program's move: the walk. -/
import Derived.Test.YtofmbpmmgpbdbaaDoorMove
import Derived.Deep.DeepCutAuto
namespace Go.Proofs.YtofmbpmmgpbdbaaDoor
open Go.RowKit Go.Maps Wr
set_option linter.unusedVariables false

/-- Behind the question whether it is a reference. -/
def MvHead (w W2 : World) (k n' : Int) (s : ByteArray) (ao : Option Addr) (len cap : Nat) (wx : World) : Prop :=
  wx.heap[w.heap.size]? = some (.cells #[.int .i64 k, .int .i64 n', .string s, .slice ao len cap] 24 (0, 0)) ∧ Chg [w.heap.size] W2 wx
def MvLoop (w W6 : World) (Q : Nat → Prop) (f : Int → Option Int) (k n' : Int) (s : ByteArray) (g cap : Nat) (la : List VT) (gk : Nat) (s34 : Value) (wr : World) : Prop :=
  ∃ (i : Nat) (done : List VT), s34 = .int .i64 i ∧ done.length = i ∧ i + gk = la.length ∧ MRow wr (fun b => Q b ∨ w.heap.size + 2 ≤ b) g cap (done ++ la.drop i) ∧ VT.moves f la = (VT.moves f (la.drop i)).map (done ++ ·) ∧ Chg [g] W6 wr

set_option maxRecDepth 100000 in
theorem zeroI (w : World) : (zeroValue 3).run Tryd.prog w = .ok (.int .i64 0) w := Tryd.zeroValue3 w
theorem move_none {f : Int → Option Int} {k n : Int} {s : ByteArray} {l : List VT} (h : (if k = 5 then f n else some n) = none) : VT.move f (.node k n s l) = none := by rw [VT.move, h]
theorem move_kids {f : Int → Option Int} {k n n' : Int} {s : ByteArray} {l : List VT} (h : (if k = 5 then f n else some n) = some n') : VT.move f (.node k n s l) = (VT.moves f l).map (.node k n' s ·) := by rw [VT.move, h]; cases VT.moves f l <;> rfl

theorem zero_ret {w wz : World} {P : Nat → Prop} (hb : Below w.heap.size w wz) : MoveEnd w P none (.returned (.tuple #[.agg #[.int .i64 0, .int .i64 0, .string ⟨#[]⟩, .slice none 0 0], .bool false])) wz :=
  ⟨_, rfl, leaf_is _ _ 0 0 ⟨#[]⟩ (by decide) (by decide) (sz_max _ (by decide)), hb⟩

theorem kclone_one (l : List VT) (ao : Option Addr) (cap : Nat) (w : World) (P : Nat → Prop) (h1 : l.length ≤ cap) (h2 : cap ≤ maxLen) (h3 : l.length ≤ 1000000) (h0 : ao = none → cap = 0) (hk : KidsAt w P l ao 0) (hP : ∀ b, P b → b < w.heap.size) :
    Calls Tryd.prog 63 #[.slice ao l.length cap] w fun e w' => ∃ so c, e = .returned (.slice so l.length c) ∧ Below w.heap.size w w' ∧ ((l = [] ∧ so = none ∧ c = 0) ∨ ∃ g, so = some ⟨g, 0, none⟩ ∧ w.heap.size ≤ g ∧ MRow w' P g c l) :=
  (kclone_any l ao cap w P h1 h2 h3 h0 hk hP).mono fun e w' h => by
    obtain ⟨hb, ⟨rfl, rfl⟩ | ⟨g, c, rfl, h1, h2⟩⟩ := h
    · exact ⟨none, 0, rfl, hb, .inl ⟨rfl, rfl, rfl⟩⟩
    · exact ⟨_, c, rfl, hb, .inr ⟨g, rfl, h1, h2⟩⟩
theorem VT.szs_len : ∀ l : List VT, l.length ≤ VT.szs l
  | [] => by simp
  | t :: l => by
    have := VT.szs_len l
    have h1 : 1 ≤ t.sz := by cases t; rw [VT.sz]; omega
    rw [VT.szs, List.length_cons]; omega
theorem mv_list {done la : List VT} {i : Nat} {tk tk' : VT} (hd : la.drop i = tk :: la.drop (i + 1)) (hl : done.length = i) : (done ++ la.drop i).set i tk' = done ++ ([tk'] ++ la.drop (i + 1)) := by
  rw [hd, List.set_append, if_neg (by omega), hl, Nat.sub_self]
  rfl
theorem mv_end {w wr wz : World} {P : Nat → Prop} {k n' : Int} {s : ByteArray} {l : List VT} {so : Option Addr} {c : Nat} (hk : (Lit.int .i64 k).wf = true) (hn : (Lit.int .i64 n').wf = true) (hs : s.size ≤ maxLen) (hle : l.length ≤ c) (hm : c ≤ maxLen) (h0 : so = none → c = 0)
    (hkids : KidsAt wr (fun b => (P b ∨ w.heap.size ≤ b) ∧ b < wr.heap.size ∧ b ≠ w.heap.size + 1) l so 0) (hz : Chg [w.heap.size + 1] wr wz) (hb : Below w.heap.size w wr) : MoveEnd w P (some (.node k n' s l)) (.returned (.tuple #[.agg #[.int .i64 k, .int .i64 n', .string s, .slice so l.length c], .bool true])) wz := by
  refine ⟨_, rfl, ?_, hb.trans (hz.below hb.size (by simp))⟩
  have hv : ValIs wr (fun b => (P b ∨ w.heap.size ≤ b) ∧ b < wr.heap.size ∧ b ≠ w.heap.size + 1) (.node k n' s l) (.agg #[.int .i64 k, .int .i64 n', .string s, .slice so l.length c]) := by
    unfold ValIs
    exact ⟨so, c, rfl, hle, hm, hs, hk, hn, h0, hkids⟩
  exact (hv.chg hz (fun b hb => ⟨hb.2.1, by simp; exact hb.2.2⟩)).mono (fun b hb => ⟨hb.1, Nat.lt_of_lt_of_le hb.2.1 hz.size⟩)
set_option maxRecDepth 100000 in
set_option maxHeartbeats 1600000 in
theorem move_walk (f : Int → Option Int) (mb nm : Nat) (k : Nat) : ∀ (t : VT) (v : Value) (w : World) (P : Nat → Prop), t.sz ≤ k → t.sz ≤ 100000 → ValIs w P t v → (∀ b, P b → b < w.heap.size) → IMap Tryd.prog 3 3 w mb nm f → (∀ a c, f a = some c → (Lit.int .i64 c).wf = true) →
    Calls Tryd.prog 36 #[v, .map (some mb)] w (MoveEnd w P (t.move f)) := by
  induction k with
  | zero => intro t v w P hk; cases t; simp [VT.sz] at hk
  | succ k ih =>
    intro t v w P hk hsz ht hP hm hf
    cases t with
    | node ka na sa la =>
    unfold ValIs at ht
    obtain ⟨ao, cap, rfl, a1, a2, a3, a4, a5, a6, a7⟩ := ht
    have hmb := hm.lt
    obtain ⟨W2, hW2⟩ : ∃ W2, W2 = (w.alloc (.cells #[.int .i64 ka, .int .i64 na, .string sa, .slice ao la.length cap] 24 (0, 0))).alloc Z4 := ⟨_, rfl⟩
    have hc2 : Chg [] w W2 := by rw [hW2]; exact ((Chg.refl [] w).alloc _).alloc _
    have hb2 : Below w.heap.size w W2 := by rw [hW2]; exact ((Below.refl _ _).alloc (Nat.le_refl _) _).alloc (by simp) _
    have hs2 : W2.heap.size = w.heap.size + 2 := by rw [hW2]; simp
    have z2V : W2.heap[w.heap.size]? = some (.cells #[.int .i64 ka, .int .i64 na, .string sa, .slice ao la.length cap] 24 (0, 0)) := by rw [hW2]; exact (heap_alloc_old _ _ (by simp)).trans (heap_alloc_new _ _)
    have z2R : W2.heap[w.heap.size + 1]? = some Z4 := by
      rw [hW2]
      have := heap_alloc_new (w.alloc (.cells #[.int .i64 ka, .int .i64 na, .string sa, .slice ao la.length cap] 24 (0, 0))) Z4
      simpa using this
    obtain ⟨v0, v1, v2, v3, v4⟩ := hdr4_cells z2V
    obtain ⟨r0, r1, r2, r3, r4⟩ := hdr4_cells z2R
    have hm2 := Lib.hid (hm.chg hc2 (by simp))
    have HW2 := Lib.hid hW2
    have B2 := Lib.hid hb2
    have S2 := Lib.hid hs2
    have ZV := Lib.hid z2V
    have ZR := Lib.hid z2R
    have HA7 := Lib.hid a7
    have HP := Lib.hid hP
    have HF := Lib.hid hf
    clear hb2 hs2 z2V z2R hc2 a7 hP hf hm
    cases hn : (if ka = 5 then f na else some na) with
    | none =>
      have h5 : ka = 5 := by by_cases h : ka = 5; exact h; rw [if_neg h] at hn; cases hn
      subst h5
      rw [if_pos rfl] at hn
      have HN := Lib.hid hn
      rw [move_none (by rw [if_pos rfl]; exact hn)]
      clear hn
      go_enter Tryd.func36, Tryd.ntmps36
      go_upto_if 14 with fail
      rw [← HW2.out]
      clear hW2
      go_wp2_with (at_lookup; refine wpList_lookup_imap rfl _ _ 63 rfl Tryd.underlying3 Tryd.underlying63 Tryd.underlying3 (zeroI _) hm2.out rfl na rfl a5 ?_; intro hwf; rw [HN.out])
      all_goals
        obtain ⟨z1, z2⟩ := four_ret (y0 := .int .i64 0) (y1 := .int .i64 0) (y2 := .string ⟨#[]⟩) (y3 := .slice none 0 0) ZR.out
        generalize ((((World.setCell _ _ _).setCell _ _).setCell _ _).setCell _ _) = wz at z1 z2 ⊢
        obtain ⟨y0, y1, y2, y3, _⟩ := hdr4_cells z1
        refine bodyPost_ret (v := .tuple #[.agg #[.int .i64 0, .int .i64 0, .string ⟨#[]⟩, .slice none 0 0], .bool false]) (by simp [results, Tryd.results36, go_sem, y0, y1, y2, y3]) rfl ?_
        exact zero_ret (B2.out.trans (z2.below B2.out.size (by simp)))
    | some n' =>
      have HMK := Lib.hid (move_kids (s := sa) (l := la) hn)
      have hwn : (Lit.int .i64 n').wf = true := by
        by_cases h : ka = 5
        · rw [if_pos h] at hn; exact HF.out _ _ hn
        · rw [if_neg h] at hn; cases hn; exact a5
      have HWN := Lib.hid hwn
      clear hwn
      go_enter Tryd.func36, Tryd.ntmps36
      go_upto_if 14 with fail
      rw [← HW2.out]
      clear hW2
      go_cut [6, 7] (fun _ _ wx => MvHead w W2 ka n' sa ao la.length cap wx)
      case first =>
        by_cases h5 : ka = 5
        · subst h5
          rw [if_pos rfl] at hn
          have HN := Lib.hid hn
          clear hn
          go_wp2_with (at_lookup; refine wpList_lookup_imap rfl _ _ 63 rfl Tryd.underlying3 Tryd.underlying63 Tryd.underlying3 (zeroI _) hm2.out rfl na rfl a5 ?_; intro hwf; rw [HN.out])
          go_meet
          exact ⟨(hdr4_set ZV.out).trans rfl, chg1_set W2 w.heap.size 1 _⟩
        · rw [if_neg h5] at hn
          cases hn
          have hq : (ka == 5) = false := by simpa using h5
          go_wp2
          go_meet
          exact ⟨ZV.out, Chg.refl _ _⟩
      case rest =>
        obtain ⟨zv, hc⟩ := hcut
        clear hn v0 v1 v2 v3 v4 r0 r1 r2 r3 r4
        have hbc : Below w.heap.size w wc := B2.out.trans (hc.below B2.out.size (by simp))
        have zr := (hc.block (w.heap.size + 1) (lt_of_block ZR.out) (by simp)).trans ZR.out
        obtain ⟨v0, v1, v2, v3, v4⟩ := hdr4_cells zv
        have hmw := hm2.out.chg hc (by simp; omega)
        have hll : la.length ≤ 100000 := by
          have := VT.szs_len la
          rw [VT.sz] at hsz
          omega
        have HCL := Lib.hid (kclone_one la ao cap wc P a1 a2 (by omega) a6 (HA7.out.keep (fun _ h => h) (fun p hp => hbc.cell (HP.out p.block hp))) (fun b hb => Nat.lt_of_lt_of_le (HP.out b hb) hbc.size))
        have HBC := Lib.hid hbc
        have ZR3 := Lib.hid zr
        have ZV3 := Lib.hid zv
        have HMW := Lib.hid hmw
        have S3 : Hid (w.heap.size + 2 ≤ wc.heap.size) := by have := hc.size; have := S2.out; show _ ≤ _; omega
        clear hbc zr zv hmw hc ZV ZR hm2
        go_upto_block 0 with (go_at_call 63; refine HCL.out.mono ?_; rintro e w5 ⟨so, cap5, rfl, hb5, hrow⟩; have zv5 := (hb5.block w.heap.size (lt_of_block ZV3.out)).trans ZV3.out; obtain ⟨x0, x1, x2, x3, x4⟩ := hdr4_cells zv5; have ZV5 := Lib.hid zv5; have B5 := Lib.hid hb5; have HROW := Lib.hid hrow; clear zv5 hb5 hrow)
        obtain ⟨w6, hw6⟩ : ∃ w6, w6 = w5.setCell ⟨w.heap.size, 3, none⟩ (.slice so la.length cap5) := ⟨_, rfl⟩
        rw [← hw6]
        have zv6 : w6.heap[w.heap.size]? = some (.cells #[.int .i64 ka, .int .i64 n', .string sa, .slice so la.length cap5] 24 (0, 0)) := by rw [hw6]; exact (hdr4_set ZV5.out).trans rfl
        have c56 : Chg [w.heap.size] w5 w6 := by rw [hw6]; exact chg1_set w5 w.heap.size 3 _
        have zr6 : w6.heap[w.heap.size + 1]? = some Z4 := (c56.block _ (Nat.lt_of_lt_of_le (lt_of_block ZR3.out) B5.out.size) (by simp)).trans ((B5.out.block _ (lt_of_block ZR3.out)).trans ZR3.out)
        have hb6 : Below w.heap.size w w6 := (HBC.out.trans (B5.out.mono HBC.out.size)).trans (c56.below (Nat.le_trans HBC.out.size B5.out.size) (by simp))
        have hm6 := ((HMW.out.chg (below_chg B5.out) (by simp))).chg c56 (by simp; omega)
        clear hw6 x0 x1 x2 x3 x4 v0 v1 v2 v3 v4
        obtain ⟨v0, v1, v2, v3, v4⟩ := hdr4_cells zv6
        obtain ⟨r0, r1, r2, r3, r4⟩ := hdr4_cells zr6
        have C56 := Lib.hid c56
        have ZV6 := Lib.hid zv6
        have ZR6 := Lib.hid zr6
        have HB6 := Lib.hid hb6
        have HM6 := Lib.hid hm6
        clear c56 zv6 zr6 hb6 hm6 ZV5 ZV3 ZR3 HMW HCL
        rcases HROW.out with ⟨rfl, rfl, rfl⟩ | ⟨g, rfl, hg, hrow⟩
        · go_wp2
          go_loopg [8, 11, 34] 0 (fun gk _ _ s34 wr => wr = w6 ∧ s34 = .int .i64 0)
          case atStart => exact ⟨rfl, rfl⟩
          case round =>
            obtain ⟨rfl, rfl⟩ := hrel
            go_wp2
            all_goals
              obtain ⟨z1, z2⟩ := four_ret (y0 := .int .i64 ka) (y1 := .int .i64 n') (y2 := .string sa) (y3 := .slice none 0 0) ZR6.out
              generalize ((((World.setCell _ _ _).setCell _ _).setCell _ _).setCell _ _) = wz at z1 z2 ⊢
              obtain ⟨y0, y1, y2, y3, _⟩ := hdr4_cells z1
              refine bodyPost_ret (v := .tuple #[.agg #[.int .i64 ka, .int .i64 n', .string sa, .slice none 0 0], .bool true]) (by simp [results, Tryd.results36, go_sem, y0, y1, y2, y3]) rfl ?_
              rw [HMK.out, VT.moves_nil]
              exact mv_end a4 HWN.out a3 (Nat.le_refl _) (by unfold maxLen; omega) (fun _ => rfl) (by unfold KidsAt; trivial) z2 HB6.out
        · have HG : Hid (w.heap.size + 2 ≤ g) := Nat.le_trans S3.out hg
          have hgl : g < w6.heap.size := Nat.lt_of_lt_of_le hrow.lt C56.out.size
          have HR6 : Hid (MRow w6 (fun b => P b ∨ w.heap.size + 2 ≤ b) g cap5 la) := (hrow.chg C56.out (by have := HG.out; simp; omega) (fun b hb => by have := HP.out b hb; simp; omega)).mono (fun b hb => .inl hb)
          have HL : Hid (MvLoop w w6 P f ka n' sa g cap5 la la.length (.int .i64 0) w6) := ⟨0, [], rfl, rfl, by omega, HR6.out, by simp, Chg.refl _ _⟩
          clear hrow hg
          go_wp2
          go_loopg [8, 11, 34] la.length (fun gk _ _ s34 wr => MvLoop w w6 P f ka n' sa g cap5 la gk s34 wr)
          case atStart => exact HL.out
          case round =>
            clear HL
            obtain ⟨i, done, rfl, hdl, hik, hrow, hmv, hcr⟩ := hrel
            have zv := (hcr.block w.heap.size (lt_of_block ZV6.out) (by have := HG.out; simp; omega)).trans ZV6.out
            have zr := (hcr.block (w.heap.size + 1) (lt_of_block ZR6.out) (by have := HG.out; simp; omega)).trans ZR6.out
            have hbr : Below w.heap.size w wr := HB6.out.trans (hcr.below HB6.out.size (by have := HG.out; simp; omega))
            have hmr := HM6.out.chg hcr (by have := HG.out; simp; omega)
            clear v0 v1 v2 v3 v4 r0 r1 r2 r3 r4
            obtain ⟨v0, v1, v2, v3, v4⟩ := hdr4_cells zv
            obtain ⟨r0, r1, r2, r3, r4⟩ := hdr4_cells zr
            have ZVR := Lib.hid zv
            have ZRR := Lib.hid zr
            have HBR := Lib.hid hbr
            have HMR := Lib.hid hmr
            have HROWR := Lib.hid hrow
            have HMV := Lib.hid hmv
            have HCR := Lib.hid hcr
            have HDL := Lib.hid hdl
            clear zv zr hbr hmr hmv hcr
            have g0 : (0 : Int) ≤ (i : Int) := by omega
            by_cases hlt : i < la.length
            · have g1 : (i : Int) < (la.length : Int) := by omega
              obtain ⟨tk, htk⟩ : ∃ u, la[i]? = some u := ⟨_, List.getElem?_eq_getElem hlt⟩
              have hdrop := VT.drop_kid htk
              have hget : (done ++ la.drop i)[i]? = some tk := by rw [List.getElem?_append_right (by omega), hdl, Nat.sub_self, hdrop]; rfl
              obtain ⟨aok, capk, p0, p1, p2, p3, hvk⟩ := hrow.get hget
              have HVK := Lib.hid hvk
              have hsk : tk.sz ≤ k := by
                have h5 : tk.sz < (VT.node ka na sa la).sz := VT.sz_kid (t := VT.node ka na sa la) htk
                omega
              have hsk2 : tk.sz ≤ 100000 := by
                have h5 : tk.sz < (VT.node ka na sa la).sz := VT.sz_kid (t := VT.node ka na sa la) htk
                omega
              have HI0 := fun o => ih tk (vval tk aok capk) (wr.alloc o) (fun b => (P b ∨ w.heap.size + 2 ≤ b) ∧ b < wr.heap.size ∧ b ≠ g) hsk hsk2 (hvk.below ((Below.refl _ _).alloc (Nat.le_refl _) _) (fun b hb => hb.2.1)) (fun b hb => by have := hb.2.1; simp; omega) (HMR.out.chg ((Chg.refl [] wr).alloc o) (by simp)) HF.out
              unfold vval at HI0
              have HI := Lib.hid HI0
              have HDR := Lib.hid hdrop
              clear hdl hrow hget hvk HI0 hdrop htk
              cases hr : tk.move f with
              | none =>
                rw [hr] at HI
                have HNO : Hid (VT.moves f la = none) := by show _ = _; rw [HMV.out, HDR.out, VT.moves_none _ hr]; rfl
                go_wp2_with (go_at_call 36; refine (HI.out _).mono ?_; rintro e w7 ⟨v7, rfl, hv7, hb7⟩; obtain ⟨ao7, cap7, rfl⟩ := hv7.form; have zr7 := (hb7.block (w.heap.size + 1) (by have := lt_of_block ZRR.out; simp; omega)).trans ((heap_alloc_old _ _ (lt_of_block ZRR.out)).trans ZRR.out); have zr8 := fun o => later_box zr7 o; obtain ⟨r0, r1, r2, r3, r4⟩ := hdr4_cells zr7; have ZR7 := Lib.hid zr7; have B7 := Lib.hid (HBR.out.trans (((Below.refl _ _).alloc (Nat.le_refl _) _).mono HBR.out.size |>.trans (hb7.mono (by have := HBR.out.size; simp; omega)))); clear hv7 hb7 zr7; unfold vval)
                all_goals
                  obtain ⟨z1, z2⟩ := four_ret (y0 := .int .i64 0) (y1 := .int .i64 0) (y2 := .string ⟨#[]⟩) (y3 := .slice none 0 0) ((heap_alloc_old w7 (.cells #[.int .i64 zeroT.kind, .int .i64 zeroT.num, .string zeroT.text, .slice ao7 zeroT.kids.length cap7] 24 (0, 0)) (lt_of_block ZR7.out)).trans ZR7.out)
                  generalize ((((World.setCell (World.alloc w7 _) _ _).setCell _ _).setCell _ _).setCell _ _) = wz at z1 z2 ⊢
                  obtain ⟨y0, y1, y2, y3, _⟩ := hdr4_cells z1
                  refine bodyPost_ret (v := .tuple #[.agg #[.int .i64 0, .int .i64 0, .string ⟨#[]⟩, .slice none 0 0], .bool false]) (by simp [results, Tryd.results36, go_sem, y0, y1, y2, y3]) rfl ?_
                  rw [HMK.out, HNO.out]
                  exact zero_ret ((B7.out.trans ((Below.refl _ _).alloc B7.out.size _)).trans (z2.below (by have := B7.out.size; simp; omega) (by simp)))
              | some tk' =>
                rw [hr] at HI
                have HYES : Hid (VT.moves f la = (VT.moves f (la.drop (i + 1))).map ((done ++ [tk']) ++ ·)) := by
                  show _ = _
                  rw [HMV.out, HDR.out, VT.moves_some _ hr]
                  cases VT.moves f (la.drop (i + 1)) <;> simp
                go_wp2_with (go_at_call 36; refine (HI.out _).mono ?_; rintro e w7 ⟨v7, rfl, hv7, hb7⟩; replace hv7 : ValIs w7 (fun b => ((((P b ∨ w.heap.size + 2 ≤ b) ∧ b < wr.heap.size ∧ b ≠ g) ∨ wr.heap.size + 1 ≤ b) ∧ b < w7.heap.size)) tk' v7 := (hv7.mono (fun b hb => ⟨by have := hb.1; simp at this; exact this, hb.2⟩)); obtain ⟨ao7, cap7, rfl⟩ := hv7.form; replace hb7 : Below wr.heap.size wr w7 := ((Below.refl _ _).alloc (Nat.le_refl _) _).trans (hb7.mono (by simp)); have zv7 := (hb7.block w.heap.size (lt_of_block ZVR.out)).trans ZVR.out; have zv8 := fun o => later_box zv7 o; have s0 := (fun o => (later_box zv7 o).1.2.2.2); have q0 := (fun o => new_ne' w7 ((hb7.cell (p := ⟨g, i * 4, none⟩) HROWR.out.lt).trans p0) o); have q1 := (fun o => new_ne' w7 ((hb7.cell (p := ⟨g, i * 4 + 1, none⟩) HROWR.out.lt).trans p1) o); have q2 := (fun o => new_ne' w7 ((hb7.cell (p := ⟨g, i * 4 + 2, none⟩) HROWR.out.lt).trans p2) o); have q3 := (fun o => new_ne' w7 ((hb7.cell (p := ⟨g, i * 4 + 3, none⟩) HROWR.out.lt).trans p3) o); have HR7 := Lib.hid (HROWR.out.chg (below_chg hb7) (by simp) (by simp)); have fz := (fun o j => ((HR7.out.chg ((Chg.refl [] w7).alloc o) (by simp) (by simp)).frozen j)); have ngx : w7.heap.size ≠ g := (by have := HR7.out.lt; omega); have V7 := Lib.hid hv7; have B7 := Lib.hid hb7; clear hv7 hb7 zv7 zv8; unfold vval)
                obtain ⟨m1, m2⟩ := MRow.set (i := i) (t := tk') (ao := ao7) (c := cap7) (HR7.out.chg ((Chg.refl [] w7).alloc (.cells #[.int .i64 tk'.kind, .int .i64 tk'.num, .string tk'.text, .slice ao7 tk'.kids.length cap7] 24 (0, 0))) (by simp) (by simp)) (by rw [List.length_append, List.length_drop]; have := HDL.out; omega)
                  ((V7.out.below ((Below.refl _ _).alloc (Nat.le_refl _) _) (fun b hb => hb.2)).mono (fun b hb => ⟨by rcases hb.1 with h | h; exact h.1; right; have := HROWR.out.lt; have := HG.out; omega, Nat.lt_of_lt_of_le hb.2 (by simp), by rcases hb.1 with h | h; exact h.2.2; have := HROWR.out.lt; omega⟩))
                rw [mv_list HDR.out HDL.out] at m1
                go_roundg (gk - 1)
                case measure => omega
                case rel => exact ⟨i + 1, done ++ [tk'], by go_num, by rw [List.length_append, List.length_singleton, HDL.out], by omega, by rw [List.append_assoc]; exact m1, HYES.out, (HCR.out.trans ((below_chg B7.out).alloc _) (by intro k hk; simp at hk)).trans m2 (by intro k hk; exact .inl hk)⟩
            · obtain rfl : i = la.length := by omega
              go_wp2
              all_goals
                obtain ⟨z1, z2⟩ := four_ret (y0 := .int .i64 ka) (y1 := .int .i64 n') (y2 := .string sa) (y3 := .slice (some ⟨g, 0, none⟩) la.length cap5) ZRR.out
                generalize ((((World.setCell _ _ _).setCell _ _).setCell _ _).setCell _ _) = wz at z1 z2 ⊢
                obtain ⟨y0, y1, y2, y3, _⟩ := hdr4_cells z1
                refine bodyPost_ret (v := .tuple #[.agg #[.int .i64 ka, .int .i64 n', .string sa, .slice (some ⟨g, 0, none⟩) la.length cap5], .bool true]) (by simp [results, Tryd.results36, go_sem, y0, y1, y2, y3]) rfl ?_
                rw [List.drop_length, List.append_nil] at hrow
                obtain ⟨m1, m2, m3⟩ := hrow.kids (Q' := fun b => (P b ∨ w.heap.size ≤ b) ∧ b < wr.heap.size ∧ b ≠ w.heap.size + 1) (fun b hb => ⟨hb.1.imp id (fun h => by omega), hb.2.1, by rcases hb.1 with h | h; have := HP.out b h; omega; omega⟩) ⟨.inr (by have := HG.out; omega), hrow.lt, by have := HG.out; omega⟩
                have hMM : VT.moves f la = some done := by rw [HMV.out, List.drop_length, VT.moves_nil]; simp
                rw [HMK.out, hMM]
                have := mv_end (P := P) a4 HWN.out a3 m1 m2 (fun e => by cases e) m3 z2 HBR.out
                rw [hdl] at this
                exact this
end Go.Proofs.YtofmbpmmgpbdbaaDoor
