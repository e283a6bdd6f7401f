/- Texts of the proof, in build order: St8m, StDe. -/
import Derived.Test.YtcpgbekcbaelpaaGreatDoorF34
import Derived.Test.YtcpgbekcbaelpaaGreatDoorF29
import Derived.Test.YtcpgbekcbaelpaaGreatDoorF20
import Derived.Test.YtcpgbekcbaelpaaGreatDoorF09
import Derived.Test.YtcpgbekcbaelpaaGreatDoorF35
set_option linter.unusedVariables false
set_option linter.unusedSimpArgs false
set_option linter.unusedSectionVars false
/- Layer 7: Open, the disk's own blocks and its sectors told apart. -/
namespace Go.Proofs.YtcpgbekcbaelpaaGreatDoor
open Go.RowKit Go.Shelf Go.Maps Wr
set_option linter.unusedVariables false
set_option linter.unusedSimpArgs false
attribute [local go_sem] Oper.semAt_some
def TrM (w W3 : World) (g p n3 : Nat) (E R : Nat → Prop) (ha : Int) (l1 : St.Lg) (D' : St.Dk) (wz : Nat) (k : Nat) (X : World) : Prop :=
  ∃ (lg : St.Lg) (Dg : St.Dk), k = (ha - lg.age).toNat ∧ St.truncates k ha lg Dg = (.ok l1, D') ∧ DkAt X g Dg (fun j => (E j ∧ j < w.heap.size) ∨ n3 ≤ j) (fun j => (R j ∧ j < w.heap.size) ∨ n3 ≤ j) ∧ X.heap[p]? = some (logO g lg) ∧ lg.first = 2 ∧ 0 ≤ lg.age ∧ Dg.waits.length ≤ wz ∧ Turn (fun j => (E j ∧ j < w.heap.size) ∨ j = p) W3 X
set_option maxRecDepth 100000 in
set_option maxHeartbeats 8000000 in
theorem open_mr {w : World} {g : Nat} {D D' : St.Dk} {E R : Nat → Prop} {s : St.Sto} {log : Int} {count each : Nat} (h : DkAt w g D E R) (hEh : ¬ E 0) (hT : Half w) (ho : D.off = false) (hw : D.waits.length ≤ 100000) (hlay : St.layT D.last.length log = some (count, each)) (he : each ≤ 1000) (hc : count ≤ 1000) (hok : St.openT dk count each D = (.ok s, D')) :
    Calls Tryz.prog 13 #[.pointer (some ⟨g, 0, none⟩), .int .i64 log] w fun e w' => ∃ b, e = .returned (.tuple #[.pointer (some ⟨b, 0, none⟩), .int .i64 0]) ∧ Turn E w w' ∧ ∃ F, StAt w' b g s F ∧ (∀ k, F k → w.heap.size ≤ k) ∧ DkAt w' g D' (Gro E w.heap.size) (Gro R w.heap.size) := by
  obtain ⟨hd, o, n, l0, rs, l1, k1, k2, k3, k4, rfl, k6, k7, k8⟩ := open_ok hok
  obtain ⟨p1, p2, rfl, p4⟩ := lay_pos hlay
  dsimp only at p1 p2 p4
  have hlen := h.len
  obtain ⟨m1, m2, m3, m4, m5, m6⟩ := logOpen_len (fun j hj => h.now_len (by omega)) k2
  have hld := load_ok ho p4 (by omega) k1
  obtain ⟨r1, r2, r3⟩ := readImage_len hld.2.2.2.1
  have hdb : HdB s.hd := by rw [hld.1]; exact laterHd_b (laterHd_b noHd_b _) _
  have ha := hdb.a
  have hD : ∀ X, Below w.heap.size w X → DkAt X g D E R := fun X hX => h.below hX
  have HD := Lib.hid hD
  have hcl := h.clip
  have HCL := Lib.hid hcl
  have HLAY := Lib.hid (lay_any h (count : Int) (by omega))
  rw [hlay] at HLAY
  have HT := Lib.hid hT
  have HHL := Lib.hid hT.lt
  have HEH := Lib.hid hEh
  have HO := Lib.hid ho
  have HW := Lib.hid hw
  have HP := Lib.hid p4
  have K1 := Lib.hid k1
  have K2 := Lib.hid k2
  have K3 := Lib.hid k3
  have K4 := Lib.hid k4
  have HRS := Lib.hid m1
  have HRL := Lib.hid m2
  have HL0 : Hid (l0.first = 2 ∧ l0.count = count ∧ 1 ≤ l0.age ∧ l0.age ≤ 4611686018427387904) := ⟨m3, m4, m5, m6⟩
  have HON : Hid (o.length ≤ 67108864 ∧ 0 ≤ n ∧ n ≤ 2199023255552) := ⟨r1, r2, r3⟩
  have HA := Lib.hid ha
  have HC3 := Lib.hid p1
  have HE1 := Lib.hid he
  have HC1 := Lib.hid hc
  have HS : Hid (s.log = l1 ∧ s.count = count ∧ s.each = each) := ⟨k6, k7, k8⟩
  clear h hEh hT ho hw hlay he hc hok k1 k2 k3 k4 k6 k7 k8 p1 p2 p4 m1 m2 m3 m4 m5 m6 hld r1 r2 r3 hdb ha hD hcl hlen
  go_enter Tryz.func13, Tryz.ntmps13
  go_wp2_with (first
    | (go_at_call 49; refine HLAY.out.mono ?_; rintro e w1 ⟨hb1, b, rfl, hbz, hblk⟩; dsimp only at hblk; have HB1 := Lib.hid hb1; have HBZ := Lib.hid hbz; have HBK := Lib.hid hblk; have hEb : ¬ Clip E w b := (fun hk => by have := hk.2; omega); have hRb : ¬ Clip R w b := (fun hk => by have := hk.2; omega); have HEB := Lib.hid hEb; have HRB' := Lib.hid hRb; clear hb1 hbz hblk hEb hRb)
    | (go_at_call 50; go_loud (refine (load_any (HCL.out.below HB1.out) HBK.out HEB.out HRB'.out (HT.out.below HB1.out) (by have h1 := HHL.out; have h2 := HBZ.out; omega) HO.out HP.out HE1.out K1.out).mono ?_; rintro e w2 ⟨rfl, mb, ov, hblk2, hmb, hmap, hovo, hov, ht2⟩; have HBK2 := Lib.hid hblk2; have HMB := Lib.hid hmb; have HMAP := Lib.hid hmap; have HOVO := Lib.hid hovo; have HOV := Lib.hid hov; have HT2 := Lib.hid ht2; have HB2 : Hid (Below w.heap.size w w2) := HB1.out.trans (ht2.below HB1.out.size (fun k hk => by have := HBZ.out; omega)); clear hblk2 hmb hmap hovo hov ht2))
    | (go_at_call 51; refine (walOpen_any (HD.out _ HB2.out) (HT.out.below HB2.out) HO.out count HC3.out (by have := HP.out; omega) K2.out).mono ?_; rintro e w3 ⟨p, v, rfl, hpz, hplg, hrbs, hb3⟩; have HPZ := Lib.hid hpz; have HPL := Lib.hid hplg; obtain ⟨ao, ac, hv, hvr⟩ := hrbs.form; subst hv; have HRB := Lib.hid hrbs; have HVR := Lib.hid hvr; have HB3 := Lib.hid hb3; have hx3 := (hb3.block b (lt_of_block HBK2.out)).trans HBK2.out; have HX3 := Lib.hid hx3; obtain ⟨c0, c1, c2, c3, c4, c5, c6, c7, c8, c9, c10, cf⟩ := cells11 hx3; clear hpz hplg hrbs hb3 hvr hx3))
  have hx3 := HX3.out
  have hbp : b < w2.heap.size := lt_of_block HBK2.out
  have hpz := HPZ.out
  have hs3 : (w3.setCell ⟨b, 8, none⟩ (.pointer (some ⟨p, 0, none⟩))).heap[b]? = some (storeO (.map (some mb)) n s.hd g (.pointer (some ⟨p, 0, none⟩)) ((2 + count : Nat) : Int) (each : Int)) := (dk_set hx3).trans rfl
  have hc3 : Chg [b] w3 (w3.setCell ⟨b, 8, none⟩ (.pointer (some ⟨p, 0, none⟩))) := chg_set _ _ _ _
  generalize w3.setCell ⟨b, 8, none⟩ (.pointer (some ⟨p, 0, none⟩)) = W3 at hs3 hc3 ⊢
  have t3 : Turn (fun k => k = b) w3 W3 := Turn.of_chg hc3 (fun k hk => .inl (by simpa using hk))
  have hpb : p ≠ b := by omega
  have hpl3 : W3.heap[p]? = some (logO g l0) := (t3.block p (lt_of_block HPL.out) hpb).trans HPL.out
  have hrb3 : RBs W3 (p + 1) (.slice ao rs.length ac) rs := HRB.out.turn t3 (fun k h1 h2 e => by omega)
  have hmb := HMB.out
  have hmbl := HMAP.out.lt
  have hbz := HBZ.out
  have z1 := HB1.out.size
  have hbb1 := lt_of_block HBK.out
  have hbmb : b ≠ mb := by omega
  have hmap3 : OMap W3 mb ov := (HMAP.out.below HB3.out).turn t3 (fun e => hbmb e.symm)
  have hov3 : OvIn W3 (fun k => w.heap.size ≤ k ∧ k < w2.heap.size ∧ k ≠ mb ∧ k ≠ b) ov := by
    have h1 : OvIn w2 (fun k => (w1.heap.size ≤ k ∧ k ≠ mb) ∧ k < w2.heap.size) ov := HOV.out.mono (fun k hl hk => ⟨hk, hl⟩)
    exact ((h1.turn (M := fun _ => False) (Turn.of_below HB3.out) (fun _ _ h => h)).turn t3 (fun k hk e => by omega)).mono (fun k _ hk => ⟨by omega, hk.2, hk.1.2, by omega⟩)
  have hbw3 : Below w.heap.size w W3 := (HB2.out.trans (HB3.out.mono HB2.out.size)).trans (t3.below (Nat.le_trans HB2.out.size HB3.out.size) (fun k hk => by omega))
  have z23 := HB3.out.size
  have z3 := t3.size
  have z2 := HB2.out.size
  have HQ : Hid (w.heap.size ≤ b ∧ b < w2.heap.size ∧ b ≠ mb ∧ w.heap.size ≤ mb ∧ mb < w2.heap.size ∧ w2.heap.size ≤ p ∧ p < W3.heap.size ∧ w.heap.size ≤ w2.heap.size) := ⟨by omega, by omega, hbmb, by omega, by omega, by omega, lt_of_block hpl3, z2⟩
  have HS3 := Lib.hid hs3
  have HPL3 := Lib.hid hpl3
  have HRB3 := Lib.hid hrb3
  have HMAP3 := Lib.hid hmap3
  have HOV3 := Lib.hid hov3
  have HBW3 := Lib.hid hbw3
  have HAGE : Hid (∀ X : World, X.heap[p]? = some (logO g l0) → ∀ m, Calls Tryz.prog 52 #[.pointer (some ⟨p, 0, none⟩)] (X.drewN m) fun e w' => e = .returned (.int .i64 l0.age) ∧ X.drewN m = w') := fun X hX m => walAge_any (w := X.drewN m) (l := l0) hX
  obtain ⟨c0, c1, c2, c3, c4, c5, c6, c7, c8, c9, c10, cf⟩ := cells11 hs3
  clear hx3 hbp hpz hs3 hc3 t3 hpb hpl3 hrb3 hmb hmbl hbz z1 hbb1 hbmb hmap3 hov3 hbw3 z23 z3 z2
  obtain ⟨q, hq1⟩ : ∃ q, decide (l0.age < s.hd.age) = q := ⟨_, rfl⟩
  have HQ1 := Lib.hid hq1
  go_upto_region 11 with fail
  go_quiet ((go_at_call 52; exact wqs1 (HAGE.out _ HPL3.out _)))
  clear hq1
  dsimp only [Exit.then]
  apply_assumption
  go_cut [9] (fun s9 wc => RBs wc (p + 1) s9 (if l0.age < s.hd.age then [] else rs) ∧ Below W3.heap.size W3 wc)
  case first =>
    cases q with
    | true =>
      have HIF : Hid ((if l0.age < s.hd.age then ([] : List (List UInt8)) else rs) = []) := if_pos (of_decide_eq_true HQ1.out)
      go_wp2
      go_meet
      rw [HIF.out]
      exact ⟨RBs.nil _ _, below_drewN (Below.refl _ _) _⟩
    | false =>
      have HIF : Hid ((if l0.age < s.hd.age then ([] : List (List UInt8)) else rs) = rs) := if_neg (of_decide_eq_false HQ1.out)
      go_wp2
      go_meet
      rw [HIF.out]
      exact ⟨HRB3.out.below (below_drewN (Below.refl _ _) _), below_drewN (Below.refl _ _) _⟩
  obtain ⟨hrb, hbc⟩ := hcut
  obtain ⟨rsx, hrsx⟩ : ∃ rsx, (if l0.age < s.hd.age then [] else rs) = rsx := ⟨_, rfl⟩
  have hrl : (∀ x ∈ rsx, x.length ≤ 511 * count) ∧ rsx.length ≤ count := by
    rw [← hrsx]
    split
    · exact ⟨(fun x hx => by cases hx), Nat.zero_le _⟩
    · exact ⟨HRS.out, HRL.out⟩
  have hk4 := K4.out
  rw [hrsx] at hrb hk4
  have HK4 := Lib.hid hk4
  have HRLX := Lib.hid hrl
  obtain ⟨ax, cx, hv9, hle9, hmx9, hsh9⟩ := hrb.form
  subst hv9
  have HRBX := Lib.hid hrb
  have HBC := Lib.hid hbc
  have HSH9 := Lib.hid hsh9
  have hq := HQ.out
  have hwc : Below w.heap.size w wc := HBW3.out.trans (hbc.mono HBW3.out.size)
  have hk3 := K3.out
  have hdk : DkAt wc g D (fun j => (E j ∧ j < w.heap.size) ∨ wc.heap.size ≤ j) (fun j => (R j ∧ j < w.heap.size) ∨ wc.heap.size ≤ j) := (HCL.out.below hwc).mono (fun k _ hk => .inl hk) (fun k _ hk => .inl hk)
  have HT0 : Hid (TrM w wc g p wc.heap.size E R s.hd.age l1 D' 200000 (s.hd.age - l0.age).toNat wc) := ⟨l0, D, rfl, hk3, hdk, (hbc.block p hq.2.2.2.2.2.2.1).trans HPL3.out, HL0.out.1, by have := HL0.out; omega, by have := HW.out; omega, Turn.refl _ _⟩
  have hxc := (hbc.block b (by omega)).trans HS3.out
  have HXC := Lib.hid hxc
  have HWC := Lib.hid hwc
  clear hrb hbc hrl hk4 hsh9 hle9 hmx9 hq hwc hk3 hdk hrsx hxc c0 c1 c2 c3 c4 c5 c6 c7 c8 c9 c10 cf HAGE
  go_wp2
  go_loopg [11] (s.hd.age - l0.age).toNat (fun gk s11 wr => TrM w wc g p wc.heap.size E R s.hd.age l1 D' 200000 gk wr)
  case atStart => exact HT0.out
  case round =>
    clear HT0
    obtain ⟨lg, Dg, rfl, htr, hdk, hpl, hl2, hag, hwt, htx⟩ := hrel
    have hq := HQ.out
    have hEb : ∀ j, w.heap.size ≤ j → j < wc.heap.size → ¬ ((E j ∧ j < w.heap.size) ∨ wc.heap.size ≤ j) := fun j h1 h2 h => by rcases h with h | h <;> omega
    have hRb : ∀ j, w.heap.size ≤ j → j < wc.heap.size → ¬ ((R j ∧ j < w.heap.size) ∨ wc.heap.size ≤ j) := fun j h1 h2 h => by rcases h with h | h <;> omega
    have hEb2 : ∀ j, w.heap.size ≤ j → j ≠ p → ¬ ((E j ∧ j < w.heap.size) ∨ j = p) := fun j h1 h2 h => by rcases h with h | h <;> omega
    have hzc := HBC.out.size
    have hxr := (htx.block b (by omega) (hEb2 b hq.1 (by omega))).trans HXC.out
    obtain ⟨c0, c1, c2, c3, c4, c5, c6, c7, c8, c9, c10, cf⟩ := cells11 hxr
    have HAGE : Hid (∀ m, Calls Tryz.prog 52 #[.pointer (some ⟨p, 0, none⟩)] (wr.drewN m) fun e w' => e = .returned (.int .i64 lg.age) ∧ wr.drewN m = w') := fun m => walAge_any (w := wr.drewN m) (l := lg) hpl
    have HTR := Lib.hid htr
    have HDK := Lib.hid hdk
    have HPLG := Lib.hid hpl
    have HLG : Hid (lg.first = 2 ∧ 0 ≤ lg.age ∧ Dg.waits.length ≤ 200000) := ⟨hl2, hag, hwt⟩
    have HTX := Lib.hid htx
    have HXR := Lib.hid hxr
    have HEb := Lib.hid hEb
    have HEb2 := Lib.hid hEb2
    have HZC := Lib.hid hzc
    by_cases hlt : lg.age < s.hd.age
    · have q1 : decide (lg.age < s.hd.age) = true := by simpa using hlt
      obtain ⟨m, hm⟩ : ∃ m, (s.hd.age - lg.age).toNat = m + 1 := ⟨(s.hd.age - lg.age).toNat - 1, by omega⟩
      rw [hm, St.truncates, if_pos hlt] at htr
      cases h1 : lg.truncate Dg with
      | mk r Dh =>
        cases r with
        | error e => rw [andThen_no h1] at htr; cases htr
        | ok lh =>
          rw [andThen_ok h1] at htr
          have hlh := truncate_ok h1
          have hwe := St.truncate_empty h1
          have hha : Half wr := (HT.out.below HWC.out).turn htx (fun h => by rcases h with h | h; exact HEH.out h.1; have := HHL.out; omega)
          have HTRC := Lib.hid (fun m => walTruncate_any (w := wr.drewN m) (hdk.below (below_drewN (Below.refl _ _) m)) hpl (hEb p (by omega) (by omega)) (hRb p (by omega) (by omega)) (fun h => by rcases h with h | h; exact HEH.out h.1; have := HHL.out; have := HWC.out.size; omega) (hha.below (below_drewN (Below.refl _ _) m)) (by rw [hl2]; omega) ⟨hag, by have := HA.out; show lg.age + 1 ≤ 4611686018427387904; omega⟩ (by omega))
          simp only [h1] at HTRC
          have HM := Lib.hid hm
          have HTR2 := Lib.hid htr
          have HLH := Lib.hid hlh
          have HWE := Lib.hid hwe
          have HLT := Lib.hid hlt
          clear htr hdk hpl hl2 hag hwt htx hxr hq hEb hRb hEb2 hzc hlt hm h1 hlh hwe hha HTR
          go_wp2
          go_quiet ((go_at_call 52; exact wqs1 (HAGE.out _)))
          go_wp2_with (go_at_call 53; refine (HTRC.out _).mono ?_; rintro e w5 ⟨he, hd5, hp5, ht5⟩; subst he; have HD5 := Lib.hid hd5; have HP5 := Lib.hid hp5; have HT5 := Lib.hid ht5; clear hd5 hp5 ht5)
          go_roundg m
          case measure => have := HM.out; omega
          case rel =>
            have hq := HQ.out
            have hzc := HZC.out
            have hzr := HTX.out.size
            have hg : ∀ k, Gro (fun j => (E j ∧ j < w.heap.size) ∨ wc.heap.size ≤ j) (wr.drewN nq).heap.size k → (E k ∧ k < w.heap.size) ∨ wc.heap.size ≤ k := fun k hk => by
              rcases hk with hk | hk
              · exact hk
              · exact .inr (Nat.le_trans hzr hk)
            have hgR : ∀ k, Gro (fun j => (R j ∧ j < w.heap.size) ∨ wc.heap.size ≤ j) (wr.drewN nq).heap.size k → (R k ∧ k < w.heap.size) ∨ wc.heap.size ≤ k := fun k hk => by
              rcases hk with hk | hk
              · exact hk
              · exact .inr (Nat.le_trans hzr hk)
            have h5 := HP5.out
            rw [show lgAfter lg (Except.ok lh) = lh from rfl] at h5
            have hag : lh.age = lg.age + 1 := by rw [HLH.out]
            refine ⟨lh, Dh, by have := HM.out; omega, HTR2.out, HD5.out.mono (fun k _ hk => hg k hk) (fun k _ hk => hgR k hk), h5, by rw [HLH.out]; exact HLG.out.1, by have := HLG.out; omega, by rw [HWE.out]; exact Nat.zero_le _, ?_⟩
            refine (HTX.out.thenBelow (below_drewN (Below.refl _ _) nq)).trans HT5.out (fun k hk => ?_)
            rcases hk with (hk | hk) | hk
            · exact .inl (.inl hk)
            · exact .inr hk
            · exact .inl (.inr hk)
    · have hz : (s.hd.age - lg.age).toNat = 0 := by omega
      rw [hz, St.truncates] at htr
      obtain ⟨rfl, rfl⟩ : lg = l1 ∧ Dg = D' := by
        unfold St.DM.ret at htr
        cases htr
        exact ⟨rfl, rfl⟩
      have q1 : decide (lg.age < s.hd.age) = false := by simpa using hlt
      clear htr hdk hpl hl2 hag hwt htx hxr hq hEb hRb hEb2 hzc hlt hz HTR
      go_wp2
      go_quiet ((go_at_call 52; exact wqs1 (HAGE.out _)))
      have hb5 : Below wr.heap.size wr (wr.drewN nq) := below_drewN (Below.refl _ _) nq
      have hx5 : (wr.drewN nq).heap[b]? = some (storeO (.map (some mb)) n s.hd g (.pointer (some ⟨p, 0, none⟩)) ((2 + count : Nat) : Int) (each : Int)) := HXR.out
      have hp5 : (wr.drewN nq).heap[p]? = some (logO g lg) := HPLG.out
      have hd5 := HDK.out.below hb5
      have ht5 : Turn (fun j => (E j ∧ j < w.heap.size) ∨ j = p) wc (wr.drewN nq) := HTX.out.thenBelow hb5
      generalize wr.drewN nq = W5 at hb5 hx5 hp5 hd5 ht5 ⊢
      have hq := HQ.out
      have hEb2 := HEb2.out
      have hzc := HZC.out
      have hz5 := ht5.size
      have hcb : Below W3.heap.size W3 wc := HBC.out
      have hnE : ∀ k, (w.heap.size ≤ k ∧ k < w2.heap.size ∧ k ≠ mb ∧ k ≠ b) → ¬ ((E k ∧ k < w.heap.size) ∨ k = p) := fun k hk e => by rcases e with e | e <;> omega
      have hm5 : OMap W5 mb ov := (HMAP3.out.below hcb).turn ht5 (fun e => by rcases e with e | e <;> omega)
      have hv5 : OvIn W5 (fun k => w.heap.size ≤ k ∧ k < w2.heap.size ∧ k ≠ mb ∧ k ≠ b) ov := (HOV3.out.turn (M := fun _ => False) (Turn.of_below hcb) (fun _ _ h => h)).turn ht5 hnE
      have hr5 : RBs W5 (p + 1) (.slice ax rsx.length cx) rsx := HRBX.out.turn ht5 (fun k h1 h2 e => by rcases e with e | e <;> omega)
      have hol : ov.length ≤ 67108864 := by have h1 := HON.out.1; rw [← HOVO.out, ovO_len] at h1; exact h1
      have HQ0 : Hid (RqI W5 b g mb p W5.heap.size (fun k => w.heap.size ≤ k ∧ k < w2.heap.size ∧ k ≠ mb ∧ k ≠ b) s.hd ((2 + count : Nat) : Int) (each : Int) rsx (s.objs, s.next) rsx.length (.int .i64 0) W5) := ⟨0, ov, n, rfl, by omega, hx5, hm5, hv5.mono (fun k _ hk => .inl hk), by rw [List.drop_zero, HOVO.out]; exact HK4.out, HON.out.2.1, HON.out.2.2, by omega, Turn.refl _ _⟩
      have HP5 := Lib.hid hp5
      have HD5 := Lib.hid hd5
      have HT5 := Lib.hid ht5
      have HR5 := Lib.hid hr5
      have HZ5 := Lib.hid hz5
      clear hb5 hx5 hp5 hd5 ht5 hq hEb2 hzc hz5 hcb hnE hm5 hv5 hr5 hol c0 c1 c2 c3 c4 c5 c6 c7 c8 c9 c10 cf HAGE
      go_wp2
      go_loopg [61] rsx.length (fun gk s61 wr => RqI W5 b g mb p W5.heap.size (fun k => w.heap.size ≤ k ∧ k < w2.heap.size ∧ k ≠ mb ∧ k ≠ b) s.hd ((2 + count : Nat) : Int) (each : Int) rsx (s.objs, s.next) gk s61 wr)
      case atStart => exact HQ0.out
      case round =>
        clear HQ0
        rename World => wy
        obtain ⟨i, ovx, nx, rfl, hik, hbx, hmx, hvx, hrx, hn0, hn1, hlx, htx⟩ := hrel
        have hq := HQ.out
        have hz5 := HZ5.out
        have hzc := HZC.out
        have HMX := Lib.hid hmx
        have HVX := Lib.hid hvx
        have HBX := Lib.hid hbx
        have HTXX := Lib.hid htx
        have HIK := Lib.hid hik
        have HLX := Lib.hid hlx
        by_cases hlt : i < rsx.length
        · obtain ⟨rb, hrb⟩ : ∃ rb, rsx[i]? = some rb := ⟨_, List.getElem?_eq_getElem hlt⟩
          have hdr : rsx.drop i = rb :: rsx.drop (i + 1) := by
            rw [List.drop_eq_getElem_cons hlt]
            rw [List.getElem?_eq_getElem hlt] at hrb
            cases hrb
            rfl
          rw [hdr] at hrx
          obtain ⟨o', n', hr1, hr2⟩ := replays_cons hrx
          obtain ⟨hn2, hn3⟩ := replay_next hr1 ⟨hn0, hn1⟩
          obtain ⟨g9, hg9, hg9l⟩ := HSH9.out (fun h => by rw [h] at hlt; simp at hlt)
          subst hg9
          have hrx5 : RBs wy (p + 1) (.slice (some ⟨g9, 0, none⟩) rsx.length cx) rsx := HR5.out.turn htx (fun k h1 h2 e => by rcases e with e | e <;> omega)
          obtain ⟨xv, hxv, hxb⟩ := hrx5.at hrb
          have hxbin := hxb.bytesIn
          obtain ⟨ax', cx', rfl, _⟩ := hxb
          have hrl := HRLX.out
          have hrbl := hrl.1 rb (List.mem_of_getElem? hrb)
          have hic : i ≤ 1000 := by have := HC1.out; omega
          have HRP := Lib.hid (replay_any (A := fun k => (w.heap.size ≤ k ∧ k < w2.heap.size ∧ k ≠ mb ∧ k ≠ b) ∨ (W5.heap.size ≤ k ∧ k < wy.heap.size)) hbx hmx (hvx.mono (fun k hl hk => hk.imp_right (fun h => ⟨h, hl⟩))) (fun k hk => ⟨by rcases hk with hk | hk <;> have := htx.size <;> omega, by rcases hk with hk | hk <;> omega, by rcases hk with hk | hk <;> omega⟩) hq.2.2.1 hxbin (by have := HC1.out; omega) ⟨hn0, hn1⟩ (by omega) hr1)
          have HN2 : Hid (0 ≤ n' ∧ n' ≤ 2199023255552) := ⟨hn2, hn3⟩
          have HR2 := Lib.hid hr2
          have g1 : (i : Int) < (rsx.length : Int) := by omega
          have hwi : IntKind.i64.wrap ((i : Int) + 1) = (i : Int) + 1 := by rw [IntKind.wrap_i64]; omega
          have HZY : Hid (W5.heap.size ≤ wy.heap.size) := htx.size
          clear hik hbx hmx hvx hrx hn0 hn1 hlx htx hlt hdr hr1 hr2 hn2 hn3 hg9l hrx5 hxbin hrl hrbl hic hrb hq hz5 hzc
          go_wp2_with (go_at_call 54; refine HRP.out.mono ?_; rintro e w6 ⟨rfl, ov6, hb6, hm6, ho6, hv6, ht6, hl6⟩; have HB6 := Lib.hid hb6; have HM6 := Lib.hid hm6; have HO6 := Lib.hid ho6; have HV6 := Lib.hid hv6; have HT6 := Lib.hid ht6; have HL6 := Lib.hid hl6; clear hb6 hm6 ho6 hv6 ht6 hl6)
          go_roundg (gk - 1)
          case measure => have := HIK.out; omega
          case rel => exact ⟨i + 1, ov6, n', by go_num, by have := HIK.out; omega, HB6.out, HM6.out, HV6.out.mono (fun k _ hk => by rcases hk with (hk | hk) | hk; exact .inl hk; exact .inr hk.1; exact .inr (Nat.le_trans HZY.out hk)), by rw [HO6.out]; exact HR2.out, HN2.out.1, HN2.out.2, by have := HL6.out; have := HLX.out; omega, HTXX.out.trans HT6.out (fun k hk => .inl hk)⟩
        · obtain rfl : i = rsx.length := by omega
          have g1 : ¬ ((rsx.length : Int) < (rsx.length : Int)) := by omega
          rw [List.drop_length, St.replays] at hrx
          obtain ⟨e1, e2⟩ : ovO ovx = s.objs ∧ nx = s.next := by
            simp only [Option.some.injEq, Prod.mk.injEq] at hrx
            exact hrx
          have HE12 : Hid (ovO ovx = s.objs ∧ nx = s.next) := ⟨e1, e2⟩
          clear hik hbx hmx hvx hrx hn0 hn1 hlx htx hlt e1 e2 hq hz5 hzc
          go_wp2
          go_ret2
          have hq := HQ.out
          have hz5 := HZ5.out
          have hzc := HZC.out
          have hzy := HTXX.out.size
          have hwc := HWC.out.size
          have hs := HS.out
          have hbx := HBX.out
          rw [HE12.out.2] at hbx
          have hne : ∀ k, (k = b ∨ k = mb) → ¬ (((E k ∧ k < w.heap.size) ∨ wc.heap.size ≤ k) ∧ k < W5.heap.size) := fun k hk e => by rcases hk with rfl | rfl <;> rcases e.1 with e | e <;> omega
          have hpx : wy.heap[p]? = some (logO g s.log) := by
            rw [hs.1]
            exact (HTXX.out.block p (lt_of_block HP5.out) (fun e => by rcases e with e | e <;> omega)).trans HP5.out
          have hpl := lt_of_block hpx
          have hbl := lt_of_block hbx
          have hml := HMX.out.lt
          have hhl := HHL.out
          have tall : Turn E w wy := by
            have h1 : Turn E w wc := Turn.of_below HWC.out
            have h2 : Turn E w W5 := h1.trans HT5.out (fun k hk => by rcases hk with hk | hk; exact .inl hk.1; exact .inr (by omega))
            exact h2.trans HTXX.out (fun k hk => .inr (by rcases hk with hk | hk <;> omega))
          refine ⟨b, rfl, tall, fun k => w.heap.size ≤ k ∧ k < wy.heap.size ∧ ¬ (((E k ∧ k < w.heap.size) ∨ wc.heap.size ≤ k) ∧ k < W5.heap.size), ⟨mb, p, ovx, ⟨?_, HMX.out, HE12.out.1, ?_, hpx, ⟨by omega, hbl, hne b (.inl rfl)⟩, ⟨by omega, hml, hne mb (.inr rfl)⟩, ⟨by omega, hpl, fun e => by rcases e.1 with e | e <;> omega⟩, hq.2.2.1, by omega, by omega⟩⟩, fun k hk => hk.1, ?_⟩
          · rw [hs.2.1, hs.2.2]
            exact hbx
          · refine HVX.out.mono (fun k hl hk => ?_)
            rcases hk with hk | hk
            · exact ⟨⟨hk.1, hl, fun e => by rcases e.1 with e | e <;> omega⟩, hk.2.2.2, hk.2.2.1, by omega⟩
            · exact ⟨⟨by omega, hl, fun e => by have := e.2; omega⟩, by omega, by omega, by omega⟩
          · have hneR : ∀ k, (k = b ∨ k = mb) → ¬ (((R k ∧ k < w.heap.size) ∨ wc.heap.size ≤ k) ∧ k < W5.heap.size) := fun k hk e => by rcases hk with rfl | rfl <;> rcases e.1 with e | e <;> omega
            exact (HD5.out.clip.turn HTXX.out (fun k hk e => hne k e hk) (fun k hk e => hneR k e hk)).mono (fun k _ hk => by rcases hk.1 with e | e; exact .inl e.1; exact .inr (by omega)) (fun k _ hk => by rcases hk.1 with e | e; exact .inl e.1; exact .inr (by omega))
end Go.Proofs.YtcpgbekcbaelpaaGreatDoor
/- The input of the law of turning over. -/
namespace Go.Proofs.YtcpgbekcbaelpaaGreatDoor
open Go.RowKit Go.ChangeShapes Go.WideShapes
set_option linter.unusedVariables false
set_option linter.unusedSimpArgs false
theorem cells_c7 : Tryz.prog.cellsOf 45 = 6 := by kernel_rfl
theorem cells_b : Tryz.prog.cellsOf 4 = 1 := by kernel_rfl
theorem cells_cl : Tryz.prog.cellsOf 46 = 1 := by kernel_rfl
theorem cells_de : Tryz.prog.cellsOf 57 = 3 := by kernel_rfl
theorem list_ofT {α : Type} {Q : Nat → α → Prop} : ∀ (n : Nat), (∀ i, i < n → ∃ t, Q i t) → ∃ l : List α, l.length = n ∧ ∀ i t, l[i]? = some t → Q i t
  | 0, _ => ⟨[], rfl, fun i t h => by cases h⟩
  | n + 1, h => by
    obtain ⟨l, hl, hq⟩ := list_ofT n (fun i hi => h i (by omega))
    obtain ⟨t, ht⟩ := h n (by omega)
    refine ⟨l ++ [t], by simp [hl], fun i u hu => ?_⟩
    by_cases hi : i < l.length
    · rw [List.getElem?_append_left hi] at hu; exact hq i u hu
    · rw [List.getElem?_append_right (by omega)] at hu
      have : i - l.length = 0 := by
        rcases Nat.eq_zero_or_pos (i - l.length) with h | h
        · exact h
        · rw [List.getElem?_eq_none (by simp; omega)] at hu; cases hu
      rw [this] at hu; cases hu
      have e : i = n := by omega
      rw [e]; exact ht
theorem cells_get {w : World} {a : Addr} {n : Nat} {cs : List Value} (h : w.cells? 0 a n = some cs) (k : Nat) (hk : k < n) : w.cell? (a.add k) = cs[k]? := by
  unfold World.cells? at h
  split at h
  · exact mapM_some_get h k k (by simp [hk])
  · cases h
theorem cells_lt {w : World} {b off : Nat} {u : Value} (h : w.cell? ⟨b, off, none⟩ = some u) : b < w.heap.size := World.block_lt_of_cell? _ _ h
theorem open_elems {α : Type} {w : World} {a : Addr} {sz len : Nat} {cells : α → List Value} {R : α → Prop} (hsz : 0 < sz) (hl : ∀ x, (cells x).length = sz)
    (h : ∀ i, i < len → ∃ (cs : List Value) (x : α), w.cells? 0 (a.add (i * sz)) sz = some cs ∧ cs = cells x ∧ R x) :
    ∃ l : List α, l.length = len ∧ (0 < len → a.spot = none ∧ a.block < w.heap.size) ∧ ∀ (i : Nat) x, l[i]? = some x → R x ∧ ∀ k u, (cells x)[k]? = some u → w.cell? ⟨a.block, a.off + i * sz + k, none⟩ = some u := by
  have hsp : 0 < len → a.spot = none := fun h0 => by
    obtain ⟨cs, x, hc, rfl, _⟩ := h 0 h0
    have g := cells_get hc 0 hsz
    obtain ⟨u, hu⟩ : ∃ u, (cells x)[0]? = some u := ⟨_, List.getElem?_eq_getElem (by rw [hl]; exact hsz)⟩
    have := World.cell?_spot (g.trans hu)
    simpa [Addr.add] using this
  obtain ⟨l, h1, h2⟩ := list_ofT (Q := fun i x => R x ∧ ∀ k u, (cells x)[k]? = some u → w.cell? ⟨a.block, a.off + i * sz + k, none⟩ = some u) len (fun i hi => by
    obtain ⟨cs, x, hc, rfl, hr⟩ := h i hi
    refine ⟨x, hr, fun k u hu => ?_⟩
    have hk : k < sz := by have := (List.getElem?_eq_some_iff.1 hu).1; rwa [hl] at this
    have g := (cells_get hc k hk).trans hu
    have hs := hsp (by omega)
    obtain ⟨b, off, spot⟩ := a
    simp only at hs
    subst hs
    rw [Go.WideShapes.add_plain, Go.WideShapes.add_plain] at g
    exact g)
  refine ⟨l, h1, fun h0 => ⟨hsp h0, ?_⟩, h2⟩
  obtain ⟨x, hx⟩ : ∃ x, l[0]? = some x := ⟨_, List.getElem?_eq_getElem (by omega)⟩
  obtain ⟨u, hu⟩ : ∃ u, (cells x)[0]? = some u := ⟨_, List.getElem?_eq_getElem (by rw [hl]; exact hsz)⟩
  exact cells_lt ((h2 0 x hx).2 0 u hu)
def cgs (x : CG × Option Addr × Nat) : List Value := [.int .i64 x.1.1, .int .i64 x.1.2.1.kind, .int .i64 x.1.2.1.num, .string x.1.2.1.text, .slice x.2.1 x.1.2.1.kids.length x.2.2, .bool x.1.2.2]
set_option maxRecDepth 100000 in
theorem open_chg {H : Type} {enc : TypeId × Value → H} {w : World} {spare : Nat → Bool} {held : Bool} {fuel : Nat} {cs : List Value} {x : DataW H × List MemPlace} (h : DataW.trod enc Tryz.prog w 0 spare held fuel 45 cs = some x) :
    ∃ r : CG × Option Addr × Nat, cs = cgs r ∧ (Lit.int .i64 r.1.1).wf = true ∧ ValIs w (fun b => b < w.heap.size) r.1.2.1 (vval r.1.2.1 r.2.1 r.2.2) := by
  obtain ⟨xs, n, rfl, _, hl, hlen, hf⟩ := DataW.trod_struct Tryz.underlying45 h
  rw [cells_c7] at hl
  obtain ⟨c0, c1, c2, c3, c4, c5, rfl⟩ : ∃ a b c d e f, cs = [a, b, c, d, e, f] := by
    match cs, hl with
    | [a, b, c, d, e, f], _ => exact ⟨a, b, c, d, e, f, rfl⟩
  obtain ⟨y0, y1, y2, rfl⟩ : ∃ a b c, xs = [a, b, c] := by
    match xs, hlen with
    | [a, b, c], _ => exact ⟨a, b, c, rfl⟩
  have h0 : DataW.trod enc Tryz.prog w 0 spare held n 3 (List.take (Tryz.prog.cellsOf 3) (List.drop 0 [c0, c1, c2, c3, c4, c5])) = some y0 := hf 0 _ rfl
  have h1 : DataW.trod enc Tryz.prog w 0 spare held n 33 (List.take (Tryz.prog.cellsOf 33) (List.drop 1 [c0, c1, c2, c3, c4, c5])) = some y1 := hf 1 _ rfl
  have h2 : DataW.trod enc Tryz.prog w 0 spare held n 4 (List.take (Tryz.prog.cellsOf 4) (List.drop 5 [c0, c1, c2, c3, c4, c5])) = some y2 := hf 2 _ rfl
  simp only [cells_3, cells_val, cells_b, List.drop_succ_cons, List.drop_zero, List.take_succ_cons, List.take_zero] at h0 h1 h2
  obtain ⟨m, e0, _, w0⟩ := DataW.trod_int Tryz.underlying3 h0
  simp only [List.cons.injEq, and_true] at e0
  obtain ⟨t, ao, cap, e1, hv⟩ := open_val _ _ _ h1
  simp only [List.cons.injEq, and_true] at e1
  obtain ⟨rfl, rfl, rfl, rfl⟩ := e1
  obtain ⟨q, rfl⟩ : ∃ q, c5 = .bool q := by
    cases n with
    | zero => unfold DataW.trod at h2; cases h2
    | succ n =>
      unfold DataW.trod at h2
      rw [Tryz.underlying4] at h2
      cases c5 <;> first | exact ⟨_, rfl⟩ | simp at h2
  subst e0
  exact ⟨((m, t, q), ao, cap), rfl, w0, hv⟩
set_option maxRecDepth 100000 in
theorem open_chgs {H : Type} {enc : TypeId × Value → H} {W : World} {spare : Nat → Bool} {held : Bool} {fuel : Nat} {cs : List Value} {x : DataW H × List MemPlace} (hf : DataW.trod enc Tryz.prog W 0 spare held fuel 46 cs = some x) :
    ∃ (v : Value) (l : List CG), cs = [v] ∧ ChsAt W (fun b => b < W.heap.size) v l := by
  rcases DataW.trod_slice Tryz.underlying46 hf with ⟨e3, _⟩ | ⟨a, len, cap, elems, rest, n', _, e3, _, _, hle, hcm, hel, hcel, _⟩
  · exact ⟨_, [], e3, none, 0, rfl, by simp, by unfold maxLen; omega, fun _ => rfl, fun j r hj => by cases hj⟩
  · rw [cells_c7] at hcel
    obtain ⟨l, h1, h2, h3⟩ := open_elems (cells := cgs) (R := fun r => (Lit.int .i64 r.1.1).wf = true ∧ ValIs W (fun b => b < W.heap.size) r.1.2.1 (vval r.1.2.1 r.2.1 r.2.2)) (sz := 6) (w := W) (a := a) (len := len) (by omega) (fun x => rfl) (fun i hi => by
      have hc := hcel i hi
      obtain ⟨el, he⟩ : ∃ el, elems[i]? = some el := ⟨_, List.getElem?_eq_getElem (by omega)⟩
      rw [he, Option.bind_eq_some_iff] at hc
      obtain ⟨cs', hcs, htr⟩ := hc
      obtain ⟨r, e, hw, hv⟩ := open_chg htr
      exact ⟨cs', r, hcs, e, hw, hv⟩)
    refine ⟨_, l.map fun x => x.1, e3, some a, cap, by rw [List.length_map, h1], by rw [List.length_map]; omega, hcm, (fun e => by cases e), fun i c hi => ?_⟩
    rw [List.getElem?_map, Option.map_eq_some_iff] at hi
    obtain ⟨x, hi, rfl⟩ := hi
    have hil := (List.getElem?_eq_some_iff.1 hi).1
    obtain ⟨hs, hb⟩ := h2 (by omega)
    obtain ⟨b, off, spot⟩ := a
    simp only at hs hb
    subst hs
    have := h3 i x hi
    exact ⟨b, off, rfl, hb, _, _, _, _, this.2 0 _ rfl, this.2 1 _ rfl, this.2 2 _ rfl, this.2 3 _ rfl, this.2 4 _ rfl, this.2 5 _ rfl, this.1.2, this.1.1⟩
set_option maxRecDepth 100000 in
theorem law_deed {H : Type} {enc : TypeId × Value → H} {W : World} {v : Value} {base : Nat} {d : DataW H} {ps : List MemPlace} (hok : Value.okWide Tryz.prog W .any base 57 v) (h : DataW.Trod enc Tryz.prog W 0 (fun _ => true) true 57 v d ps) :
    ∃ (wd nn : Int) (vc : Value) (cs : List CG), v = .agg #[.int .i64 wd, vc, .int .i64 nn] ∧ ChsAt W (fun b => b < W.heap.size) vc cs := by
  obtain ⟨cs, rfl, hs⟩ := okWide_struct Tryz.underlying57 hok
  obtain ⟨fuel, hf⟩ := h
  obtain ⟨xs, n, _, _, hl, hlen, hf⟩ := DataW.trod_struct Tryz.underlying57 hf
  rw [cells_de] at hl
  have hl2 : cs.toList.length = 3 := by simpa [Value.cells] using hl
  obtain ⟨c0, c1, c2, hc⟩ : ∃ a b c, cs.toList = [a, b, c] := by
    match cs.toList, hl2 with
    | [a, b, c], _ => exact ⟨a, b, c, rfl⟩
  obtain ⟨y0, y1, y2, rfl⟩ : ∃ a b c, xs = [a, b, c] := by
    match xs, hlen with
    | [a, b, c], _ => exact ⟨a, b, c, rfl⟩
  have hcv : (Value.agg cs).cells.toList = [c0, c1, c2] := by simpa [Value.cells] using hc
  have h0 : DataW.trod enc Tryz.prog W 0 (fun _ => true) true n 3 (List.take (Tryz.prog.cellsOf 3) (List.drop 0 (Value.agg cs).cells.toList)) = some y0 := hf 0 _ rfl
  have h1 : DataW.trod enc Tryz.prog W 0 (fun _ => true) true n 46 (List.take (Tryz.prog.cellsOf 46) (List.drop 1 (Value.agg cs).cells.toList)) = some y1 := hf 1 _ rfl
  have h2 : DataW.trod enc Tryz.prog W 0 (fun _ => true) true n 3 (List.take (Tryz.prog.cellsOf 3) (List.drop 2 (Value.agg cs).cells.toList)) = some y2 := hf 2 _ rfl
  rw [hcv, cells_3] at h0 h2
  rw [hcv, cells_cl] at h1
  simp only [List.drop_succ_cons, List.drop_zero, List.take_succ_cons, List.take_zero] at h0 h1 h2
  obtain ⟨k0, e0, _, _⟩ := DataW.trod_int Tryz.underlying3 h0
  obtain ⟨v1, l, e1, hl1⟩ := open_chgs h1
  obtain ⟨k2, e2, _, _⟩ := DataW.trod_int Tryz.underlying3 h2
  simp only [List.cons.injEq, and_true] at e0 e1 e2
  subst e0 e1 e2
  exact ⟨k0, k2, c1, l, by rw [show cs = #[.int .i64 k0, c1, .int .i64 k2] from Array.ext' hc], hl1⟩
end Go.Proofs.YtcpgbekcbaelpaaGreatDoor
