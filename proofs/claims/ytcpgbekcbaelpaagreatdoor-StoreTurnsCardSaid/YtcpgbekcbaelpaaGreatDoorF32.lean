/- Texts of the proof, in build order: DkSm. -/
import Derived.Test.YtcpgbekcbaelpaaGreatDoorF31
import Derived.Test.YtcpgbekcbaelpaaGreatDoorF27
set_option linter.unusedVariables false
set_option linter.unusedSimpArgs false
set_option linter.unusedSectionVars false
/- Layer 4: Same, of two disks with the same sectors. -/
namespace Go.Proofs.YtcpgbekcbaelpaaGreatDoor
open Go.RowKit Go.Shelf Go.Maps Wr
set_option linter.unusedVariables false
set_option linter.unusedSimpArgs false
set_option maxRecDepth 100000 in
set_option maxHeartbeats 1000000 in
theorem sameFn_any {w : World} {A B : Nat → Prop} {v u : Value} {b : List UInt8} (h1 : SecIs w A v b) (h2 : SecIs w B u b) :
    Calls Tryz.prog 73 #[v, u] w fun e w' => e = .returned (.bool true) ∧ Below w.heap.size w w' := by
  have H1 := Lib.hid (dkBare_any h1)
  have H2 := Lib.hid h2
  clear h1 h2
  go_enter Tryz.func73, Tryz.ntmps73
  go_wp2_with (first
    | (go_at_call 75; (with_reducible refine H1.out.mono ?_); rintro e w1 ⟨v1, rfl, hr, hb⟩; have HR1 := Lib.hid hr; have HB1 := Lib.hid hb; clear hr hb)
    | (go_at_call 75; go_loud (have hq := dkBare_any (H2.out.turn (M := fun _ => False) (Turn.of_below HB1.out) (fun _ _ h => h)); (with_reducible refine hq.mono ?_); clear hq; rintro e w2 ⟨v2, rfl, hr, hb⟩; have HR2 := Lib.hid hr; have HB2 := Lib.hid hb; clear hr hb))
    | (go_at_call 74; go_loud (have hq := equal_any (BytesIn.row (HR1.out.below HB2.out)) (BytesIn.row HR2.out); rw [decide_eq_true (rfl : b = b)] at hq; (with_reducible refine hq.mono ?_); clear hq; rintro e w3 ⟨rfl, rfl⟩)))
  go_ret
  exact ⟨rfl, HB1.out.trans (HB2.out.mono HB1.out.size)⟩
def EqSI (w : World) (n : Nat) (gk : Nat) (s : Value) (X : World) : Prop := ∃ i : Nat, s = .int .i64 (i : Int) ∧ i + gk = n ∧ Below w.heap.size w X
set_option maxRecDepth 100000 in
set_option maxHeartbeats 1600000 in
theorem eqSec_any {w : World} {A B : Nat → Prop} {g1 g2 c1 c2 n : Nat} {vs us : List Value} {l : List (List UInt8)} (r1 : Row w 44 (.slice (some ⟨g1, 0, none⟩) vs.length c1) vs) (r2 : Row w 44 (.slice (some ⟨g2, 0, none⟩) us.length c2) us) (e1 : vs.length = n) (e2 : us.length = n) (hn : n ≤ 65536)
    (s1 : ∀ i v, vs[i]? = some v → SecIs w A v (l.getD i [])) (s2 : ∀ i v, us[i]? = some v → SecIs w B v (l.getD i [])) :
    Calls Tryz.prog 72 #[.slice (some ⟨g1, 0, none⟩) n c1, .slice (some ⟨g2, 0, none⟩) n c2, .func (.func 73) #[] #[]] w fun e w' => e = .returned (.bool true) ∧ Below w.heap.size w w' := by
  have hl1 := r1.lt (k := g1) rfl
  have hl2 := r2.lt (k := g2) rfl
  have HC : Hid (∀ i v u X, vs[i]? = some v → us[i]? = some u → Below w.heap.size w X → X.cell? ⟨g1, i, none⟩ = some v ∧ X.cell? ⟨g2, i, none⟩ = some u ∧ Calls Tryz.prog 73 #[v, u] X fun e w' => e = .returned (.bool true) ∧ Below X.heap.size X w') := fun i v u X hv hu hX => by
    refine ⟨(hX.cell (p := ⟨g1, i, none⟩) hl1).trans ((r1.cellAt i (List.getElem?_eq_some_iff.1 hv).1).trans hv), (hX.cell (p := ⟨g2, i, none⟩) hl2).trans ((r2.cellAt i (List.getElem?_eq_some_iff.1 hu).1).trans hu), ?_⟩
    exact sameFn_any ((s1 i v hv).turn (M := fun _ => False) (Turn.of_below hX) (fun _ _ h => h)) ((s2 i u hu).turn (M := fun _ => False) (Turn.of_below hX) (fun _ _ h => h))
  have HF : Hid (∀ (i : Nat) (v u : Value), vs[i]? = some v → us[i]? = some u → (∃ ao l c, v = Value.slice ao l c) ∧ ∃ ao l c, u = Value.slice ao l c) := fun i v u hv hu => by
    have k1 := s1 i v hv
    have k2 := s2 i u hu
    constructor
    · rcases k1 with ⟨e, _⟩ | ⟨_, ao, cap, e, _⟩ <;> exact ⟨_, _, _, e⟩
    · rcases k2 with ⟨e, _⟩ | ⟨_, ao, cap, e, _⟩ <;> exact ⟨_, _, _, e⟩
  have HE : Hid (vs.length = n ∧ us.length = n ∧ n ≤ 65536) := ⟨e1, e2, hn⟩
  clear r1 r2 s1 s2 hl1 hl2 e1 e2 hn
  go_enter Tryz.func72, Tryz.ntmps72
  go_wp2
  go_loopg [7, 8, 9, 17] n (fun gk s7 s8 s9 s17 wr => EqSI w n gk s17 wr)
  case atStart => exact ⟨0, rfl, by omega, Below.refl _ _⟩
  case round =>
    obtain ⟨i, rfl, hik, hb⟩ := hrel
    have HB := Lib.hid hb
    have HIK := Lib.hid hik
    have i0 : (0 : Int) ≤ (i : Int) := by omega
    by_cases hlt : i < n
    · have i1 : (i : Int) < (n : Int) := by omega
      have i2 : (i : Int) ≤ 65536 := by have := HE.out; omega
      have HLT : Hid (i < n) := hlt
      obtain ⟨v, hv⟩ : ∃ v, vs[i]? = some v := ⟨_, List.getElem?_eq_getElem (by have := HE.out; omega)⟩
      obtain ⟨u, hu⟩ : ∃ v, us[i]? = some v := ⟨_, List.getElem?_eq_getElem (by have := HE.out; omega)⟩
      obtain ⟨k1, k2, k3⟩ := HC.out i v u wr hv hu hb
      obtain ⟨⟨a1, b1, d1, rfl⟩, ⟨a2, b2, d2, rfl⟩⟩ := HF.out i v u hv hu
      have HK := Lib.hid k3
      clear k3 hv hu hlt hik hb
      go_wp2_with (fail)
      refine HK.out.mono ?_
      rintro e w5 ⟨rfl, hb5⟩
      have H5 := Lib.hid hb5
      clear hb5
      go_wp2
      go_roundg (gk - 1)
      case measure => have := HIK.out; have := HLT.out; omega
      case rel => exact ⟨i + 1, by go_num, by have := HIK.out; have := HLT.out; omega, HB.out.trans (H5.out.mono HB.out.size)⟩
    · obtain rfl : n = i := by omega
      have i1 : ¬ (n : Int) < (n : Int) := by omega
      clear hik hb hlt
      go_wp2
      go_ret
      exact ⟨rfl, HB.out⟩
set_option maxRecDepth 100000 in
set_option maxHeartbeats 1000000 in
theorem dkSame_any {w : World} {g g' : Nat} {D D' : St.Dk} {M R M' R' : Nat → Prop} (h : DkAt w g D M R) (h' : DkAt w g' D' M' R') (he : D.last = D'.last) :
    Calls Tryz.prog 28 #[.pointer (some ⟨g, 0, none⟩), .pointer (some ⟨g', 0, none⟩)] w fun e w' => e = .returned (.bool true) ∧ Below w.heap.size w w' := by
  obtain ⟨gl, cl, gm, vw, sx, vs, ws, h⟩ := h
  obtain ⟨gl', cl', gm', vw', sx', vs', ws', h'⟩ := h'
  obtain ⟨c0, _⟩ := cells6 h.blk
  obtain ⟨d0, _⟩ := cells6 h'.blk
  have hn : vs.length = vs'.length := by rw [← h.len, ← h'.len, he]
  rw [hn] at c0
  have HSS : Hid (∀ X, Below w.heap.size w X → X.cell? ⟨g, 0, none⟩ = some (.slice (some ⟨gl, 0, none⟩) vs'.length cl) ∧ X.cell? ⟨g', 0, none⟩ = some (.slice (some ⟨gl', 0, none⟩) vs'.length cl')) := fun X hX => ⟨(hX.cell (p := ⟨g, 0, none⟩) (lt_of_block h.blk)).trans c0, (hX.cell (p := ⟨g', 0, none⟩) (lt_of_block h'.blk)).trans d0⟩
  have HQ := Lib.hid (fun X (hX : Below w.heap.size w X) => eqSec_any (n := vs'.length) (h.turn (Q := fun _ => False) (Turn.of_below hX) (fun _ _ h => h) (fun _ _ h => h)).row (h'.turn (Q := fun _ => False) (Turn.of_below hX) (fun _ _ h => h) (fun _ _ h => h)).row hn rfl h'.big (h.turn (Q := fun _ => False) (Turn.of_below hX) (fun _ _ h => h) (fun _ _ h => h)).secs (he ▸ (h'.turn (Q := fun _ => False) (Turn.of_below hX) (fun _ _ h => h) (fun _ _ h => h)).secs))
  clear h h' hn he
  go_enter Tryz.func28, Tryz.ntmps28
  go_upto_region 3 with fail
  clear c0 d0
  go_region_held3 (fun X => X.cell? ⟨g, 0, none⟩ = some (.slice (some ⟨gl, 0, none⟩) vs'.length cl) ∧ X.cell? ⟨g', 0, none⟩ = some (.slice (some ⟨gl', 0, none⟩) vs'.length cl'))
    (first | exact HSS.out _ (Below.refl _ _).drew | exact HSS.out _ HBY.out)
    (first
      | (go_at_call 72; go_loud (have hq := HQ.out w.drew (Below.refl _ _).drew; (with_reducible refine hq.mono ?_); clear hq; rintro e wY ⟨rfl, hb⟩; have HBY : Hid (Below w.heap.size w wY) := (Below.refl w.heap.size w).drew.trans hb; clear hb)))
  (try dsimp only [Exit.then])
  apply_assumption
  go_wp2
  go_ret
  exact ⟨rfl, HBY.out⟩
end Go.Proofs.YtcpgbekcbaelpaaGreatDoor
