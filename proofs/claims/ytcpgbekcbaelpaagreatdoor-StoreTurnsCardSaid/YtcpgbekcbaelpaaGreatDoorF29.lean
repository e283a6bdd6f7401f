/- Texts of the proof, in build order: DkCr. -/
import Derived.Test.YtcpgbekcbaelpaaGreatDoorF26
import Derived.Test.YtcpgbekcbaelpaaGreatDoorF09
import Derived.Test.YtcpgbekcbaelpaaGreatDoorF01
set_option linter.unusedVariables false
set_option linter.unusedSimpArgs false
set_option linter.unusedSectionVars false
/- Layer 4: Crash. -/
namespace Go.Proofs.YtcpgbekcbaelpaaGreatDoor
open Go.RowKit Go.Shelf Go.Maps Wr
set_option linter.unusedVariables false
set_option linter.unusedSimpArgs false
def stays (picks : List Int) (i : Nat) : Bool := decide (i < picks.length ∧ picks.getD i 0 % 2 = 1)
set_option maxRecDepth 100000 in
set_option maxHeartbeats 1000000 in
theorem crashFn_any {W : World} {q i : Nat} {v : Value} {picks : List Int} (hq : W.cell? ⟨q, 0, none⟩ = some v) (hv : IntsAt W v picks) (hi : i ≤ 1000000) :
    Calls Tryz.prog 70 #[.int .i64 (i : Int), .pointer (some ⟨q, 0, none⟩)] W fun e W' => e = .returned (.bool (stays picks i)) ∧ W = W' := by
  obtain ⟨ao, cap, rfl, h1, h2⟩ := hv.form
  obtain ⟨n, hn⟩ : ∃ n, picks.length = n := ⟨_, rfl⟩
  have i0 : (0 : Int) ≤ (i : Int) := by omega
  by_cases hlt : i < n
  · obtain ⟨x, hx⟩ : ∃ x, picks[i]? = some x := ⟨_, List.getElem?_eq_getElem (by omega)⟩
    obtain ⟨g, o, rfl, hg, hc⟩ := hv.at hx
    have i1 : (i : Int) < (n : Int) := by omega
    have hs : stays picks i = decide (x % 2 = 1) := by
      unfold stays
      have e : picks.getD i 0 = x := by rw [List.getD_eq_getElem?_getD, hx]; rfl
      rw [e]
      have : i < picks.length := by omega
      simp [this]
    rw [hn] at hq
    rw [hs]
    have ha := and1 x
    clear hv h1 h2 hn hlt hx hg hs
    by_cases hx2 : x % 2 = 1
    · rw [hx2] at ha
      have hd : decide (x % 2 = 1) = true := decide_eq_true hx2
      rw [hd]
      clear hd hx2
      go_enter Tryz.func70, Tryz.ntmps70
      go_wp2
      go_ret
      exact ⟨rfl, rfl⟩
    · have hx0 : x % 2 = 0 := by omega
      rw [hx0] at ha
      have hd : decide (x % 2 = 1) = false := decide_eq_false hx2
      rw [hd]
      clear hd hx2 hx0
      go_enter Tryz.func70, Tryz.ntmps70
      go_wp2
      go_ret
      exact ⟨rfl, rfl⟩
  · have i1 : ¬ (i : Int) < (n : Int) := by omega
    have hs : stays picks i = false := by
      unfold stays
      have : ¬ i < picks.length := by omega
      simp [this]
    rw [hn] at hq
    rw [hs]
    clear hv h1 h2 hn hlt hs
    go_enter Tryz.func70, Tryz.ntmps70
    go_wp2
    go_ret
    exact ⟨rfl, rfl⟩
theorem IntsAt.chg {w w' : World} {F : List Nat} {v : Value} {h : List Int} (hi : IntsAt w v h) (hc : Chg F w w') (hF : h ≠ [] → ∀ a n c, v = .slice (some a) n c → a.block ∉ F) : IntsAt w' v h := by
  obtain ⟨ao, cap, rfl, h1, h2, k⟩ := hi
  refine ⟨ao, cap, rfl, h1, h2, fun i x hx => ?_⟩
  obtain ⟨g, o, rfl, hg, hcell⟩ := k i x hx
  refine ⟨g, o, rfl, Nat.lt_of_lt_of_le hg hc.size, ?_⟩
  rw [← hcell]
  unfold World.cell?
  rw [hc.block g hg (hF (fun e => by subst e; cases hx) ⟨g, o, none⟩ _ _ rfl)]
theorem DkIn.turn {w w' : World} {g gl cl gm : Nat} {vw : Value} {sx : Int} {vs : List Value} {ws : List WT} {D : St.Dk} {M R Q : Nat → Prop} (h : DkIn w g gl cl gm vw sx vs ws D M R) (ht : Turn Q w w') (hM : ∀ k, M k → ¬ Q k) (hR : ∀ k, R k → ¬ Q k) : DkIn w' g gl cl gm vw sx vs ws D M R :=
  { h with
    blk := (ht.block _ (lt_of_block h.blk) (hM _ h.m0)).trans h.blk
    row := h.row.turn ht (fun k hk => by cases hk; exact hM _ h.m1)
    secs := fun i v hv => (h.secs i v hv).turn ht (fun k hk => hR k hk.1)
    wts := h.wts.turn ht (fun k hk => hM k (h.m3 k hk))
    map := h.map.turn ht (hM _ h.m2)
    was := fun x hx => ⟨(h.was x hx).1, (h.was x hx).2.turn ht (fun k hk => hR k hk.1)⟩ }
set_option maxRecDepth 100000 in
set_option maxHeartbeats 2000000 in
theorem dkCrash_any {w : World} {g : Nat} {D : St.Dk} {M R : Nat → Prop} {v : Value} {picks : List Int} (h : DkAt w g D M R) (hw : D.waits.length ≤ 1000000) (hv : IntsAt w v picks) (hvM : picks ≠ [] → ∀ a n c, v = .slice (some a) n c → a.block < w.heap.size ∧ ¬ M a.block) :
    Calls Tryz.prog 26 #[.pointer (some ⟨g, 0, none⟩), v] w fun e w' => e = .returned (.tuple #[]) ∧ DkAt w' g (D.crash picks) (Gro M w.heap.size) (Gro R w.heap.size) ∧ Turn M w w' := by
  obtain ⟨ao, cap, rfl, _⟩ := hv.form
  have ha := (Below.refl w.heap.size w).alloc (Nat.le_refl _) (.cells #[.slice ao picks.length cap] 22)
  have hx := heap_alloc_new w (.cells #[.slice ao picks.length cap] 22)
  obtain ⟨gl, cl, gm, vw, sx, vs, ws, h⟩ := h
  have hwl : ws.length ≤ 1000000 := by rw [h.wseq, List.length_map] at hw; exact hw
  have hgl := h.row.lt (k := gl) rfl
  have h1 := h.turn (Q := fun _ => False) (Turn.of_below ha) (fun _ _ h => h) (fun _ _ h => h)
  have hz : (w.alloc (.cells #[.slice ao picks.length cap] 22)).heap.size = w.heap.size + 1 := by simp
  have hsv := hv.below ha
  have HP : Hid (∀ W i, Chg [gl] (w.alloc (.cells #[.slice ao picks.length cap] 22)) W → i < ws.length → Calls Tryz.prog 70 (#[.int .i64 (i : Int)] ++ #[.pointer (some ⟨w.heap.size, 0, none⟩)]) W fun e W' => e = .returned (.bool (stays picks i)) ∧ W = W') := fun W i hc hi => by
    have hq : W.heap[w.heap.size]? = some (.cells #[.slice ao picks.length cap] 22) := (hc.block _ (by omega) (by simp; omega)).trans hx
    exact crashFn_any (v := .slice ao picks.length cap) (by simp [World.cell?, hq]) (hsv.chg hc (fun hne a n c e => by
      cases e
      have h2 := hvM hne a _ _ rfl
      simp
      intro e3
      exact h2.2 (e3 ▸ h.m1))) (by omega)
  have HS := Lib.hid (dkSettle_any h1 70 #[.pointer (some ⟨w.heap.size, 0, none⟩)] (enters_of Tryz.func70 (by kernel_rfl) rfl) (stays picks) hwl HP.out)
  have HM0 : Hid (M g) := h.m0
  have HZ := Lib.hid hz
  have HA := Lib.hid ha
  clear h h1 hv hvM hw hwl hgl hz hsv ha hx HP
  go_enter Tryz.func26, Tryz.ntmps26
  go_wp2_with (go_at_call 69; go_loud ((with_reducible refine HS.out.mono ?_); rintro e w2 ⟨rfl, ht, gm2, sx2, hd2⟩; have HT := Lib.hid ht; have HD2 := Lib.hid hd2; obtain ⟨_, _, _, c3, c4, _, cf⟩ := cells6 hd2.blk; clear ht hd2))
  go_end0
  have hb := (dk_set (o := 3) (u := .int .i64 (-1)) (dk_set (o := 4) (u := .bool false) HD2.out.blk)).trans rfl
  have hc : Chg [g] w2 ((w2.setCell ⟨g, 4, none⟩ (.bool false)).setCell ⟨g, 3, none⟩ (.int .i64 (-1))) := (chg_set _ _ _ _).then1 (chg_set _ _ _ _)
  have hd := HD2.out.power hc (-1) false sx2 (WalkArith.wf_i64 (by omega)) D.steps hb
  have hz := HZ.out
  have ht2 : Turn M w ((w2.setCell ⟨g, 4, none⟩ (.bool false)).setCell ⟨g, 3, none⟩ (.int .i64 (-1))) := ((Turn.of_below (M := M) HA.out).trans HT.out (fun k hk => .inl hk)).trans (Turn.of_chg (M := M) hc (fun k hk => .inl (by simp at hk; subst hk; exact HM0.out))) (fun k hk => .inl hk)
  have h3 : DkAt ((w2.setCell ⟨g, 4, none⟩ (.bool false)).setCell ⟨g, 3, none⟩ (.int .i64 (-1))) g (D.crash picks) (Gro M (w.alloc (.cells #[.slice ao picks.length cap] 22)).heap.size) R := ⟨_, _, _, _, _, _, _, hd⟩
  exact ⟨rfl, h3.mono (fun k _ hk => hk.imp id (fun e => by omega)) (fun k _ hk => .inl hk), ht2⟩
end Go.Proofs.YtcpgbekcbaelpaaGreatDoor
