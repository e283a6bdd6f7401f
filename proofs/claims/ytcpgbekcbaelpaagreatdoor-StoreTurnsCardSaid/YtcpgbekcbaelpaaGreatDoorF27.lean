/- Texts of the proof, in build order: Wl1, Wl2, Wl3, Wl4, Wl5, Wl6, Wl7, Wl8. -/
import Derived.Test.YtcpgbekcbaelpaaGreatDoorF26
import Derived.Test.YtcpgbekcbaelpaaGreatDoorF19
import Derived.Test.YtcpgbekcbaelpaaGreatDoorF14
import Derived.Lib.SlBytesConst
import Derived.Deep.AppendSrc
import Derived.Lib.AppendZeros
import Derived.Test.YtcpgbekcbaelpaaGreatDoorF23
import Derived.Deep.QuietTactic
import Derived.BigQuiet
import Derived.StillTailTactics
import Derived.Deep.RegionHeld3
import Derived.Deep.RegionLaw
import Derived.Test.YtcpgbekcbaelpaaGreatDoorF15
set_option linter.unusedVariables false
set_option linter.unusedSimpArgs false
set_option linter.unusedSectionVars false
/- Layer 5: a sector of a log is written and read; bytes that are put behind others. -/
namespace Go.Proofs.YtcpgbekcbaelpaaGreatDoor
open Go.RowKit Go.Maps Wr
set_option linter.unusedVariables false
set_option linter.unusedSimpArgs false
def BFull (w : World) (v : Value) (b : List UInt8) : Prop := BytesIn w v b ∧ ∃ ao, v = .slice ao b.length b.length
theorem bytesIn_src {w : World} {v : Value} {b : List UInt8} (h : BytesIn w v b) : Src Tryz.prog 1 44 v b.length (bvals b) w := by
  obtain ⟨ao, cap, rfl, h2, h3, h4, h5⟩ := h
  cases ao with
  | none =>
    have hb : b = [] := List.length_eq_zero_iff.1 (by have := h4 rfl; omega)
    subst hb
    exact Src.ofNil w Tryz.underlying44 _
  | some a =>
    refine Src.ofSlice w Tryz.underlying44 a b.length cap (bvals b) (by rw [bvals_length, Nat.mul_one]) (fun j u hj => ?_) (bvals_one b)
    have hl := (List.getElem?_eq_some_iff.1 hj).1
    rw [bvals_length] at hl
    obtain ⟨g, o, e0, e1, e2⟩ := h5 j hl
    cases e0
    have ea : (⟨g, o, none⟩ : Addr).add j = ⟨g, o + j, none⟩ := by unfold Addr.add; split <;> simp_all
    rw [ea, e2, ← hj]
    simp [bvals, hl]
theorem bytesIn_first {w : World} {v : Value} {b : List UInt8} (h : BytesIn w v b) : (Builtin.firstCells 1 b.length v).run Tryz.prog w.drew = .ok (bvals b).toArray w.drew := (bytesIn_src h).cellsD
theorem run_appx {w : World} {va vb : Value} {a b : List UInt8} (ha : BFull w va a) (hb : BytesIn w vb b) (hne : b ≠ []) (h63 : a.length + b.length ≤ 1000000000) (ty : TypeId) :
    ∃ v' w', (Builtin.append_ #[44, 44] ty #[va, vb]).run Tryz.prog w = .ok v' w' ∧ ByteRow w' w.heap.size v' (a ++ b) ∧ Below w.heap.size w w' := by
  obtain ⟨i0, hi, hz0, hz1, hz2⟩ := info_parts infoB
  have hp : 0 < b.length := List.length_pos_iff.2 hne
  obtain ⟨ha, ao, rfl⟩ := ha
  have hf := bytesIn_first ha
  have hs := bytesIn_src hb
  rw [← hz1] at hf hs
  have hrun := run_append_grow_src (P := Tryz.prog) (w := w) 44 44 ty 5 i0 (.int .u8 0) Tryz.underlying44 hi hz0 ao a.length a.length (bvals a) hf vb b.length (bvals b) hs (by omega) (by omega) (by rw [hz2]; exact growslice_fits (by omega) (by omega))
  have hgr := grownRow (w := w) (N := w.heap.size) (b := a) (cap := 0) b (Nat.le_refl _) h63 a.length (.slice ao a.length a.length)
  have e : (bvals a).toArray ++ (bvals b).toArray = (bvals a ++ bvals b).toArray := by simp
  rw [e] at hgr
  refine ⟨_, _, hrun, hgr.1, ?_⟩
  exact ((Below.refl _ w).drew).alloc (Nat.le_refl _) _
theorem wpList_appx {w : World} {ops : Array Oper} {rest : List Oper} {o : Oper} {ac : Act} {Q : Exit → Act → World → Prop} (hgd : o.guard = none) (s x : Operand)
    (ho : o.op = .call { callee := .builtin .append, args := #[s, x], argTypes := #[44, 44] }) {va vb : Value} {a b : List UInt8} (hs : ac.eval s = va) (hx : ac.eval x = vb) (ha : BFull w va a) (hb : BytesIn w vb b) (hne : b ≠ []) (h63 : a.length + b.length ≤ 1000000000)
    (h : ∀ v' w', ByteRow w' w.heap.size v' (a ++ b) → Below w.heap.size w w' → wpList Tryz.prog ops Q rest (ac.put o.dst v') w') : wpList Tryz.prog ops Q (o :: rest) ac w := by
  obtain ⟨v', w', hr, h1, h2⟩ := run_appx ha hb hne h63 o.type
  exact Lib.wpList_append_run w hgd s x _ _ ho va vb hs hx v' w' hr (h v' w' h1 h2)
theorem step_zeros {w : World} {ops : Array Oper} {o : Oper} {a : Act} {K : Act → World → Prop} {Q : Exit → Act → World → Prop} {E : Prop} (hgd : o.guard = none) (s x : Operand)
    (ho : o.op = .call { callee := .builtin .append, args := #[s, x], argTypes := #[44, 3] }) {N n : Nat} {v : Value} {b : List UInt8} (hs : a.eval s = v) (hx : a.eval x = .int .i64 (n : Int)) (hr : ByteRow w N v b) (hN : N ≤ w.heap.size) (h63 : b.length + n ≤ 1000000000)
    (h : ∀ v' w', ByteRow w' N v' (b ++ St.zeros n) → OwnStep w v w' v' → K (a.put o.dst v') w') : if Region.wanted o (yielded ops a.tmps) = true then Oper.wp Tryz.prog o a w K Q else E := by
  have hw : Region.wanted o (yielded ops a.tmps) = true := by simp [Region.wanted, hgd]
  rw [if_pos hw]
  obtain ⟨v', w', hrun, h2, h3⟩ := run_zeros hr n hN h63 o.type
  exact Lib.wp_append_run w s x _ _ ho v _ hs hx v' w' hrun (h v' w' h2 h3)
theorem lg_cells (w : World) : BFull (w.alloc (.cells #[.int .u8 76, .int .u8 71] 5 (2, 3))) (.slice (some ⟨w.heap.size, 0, none⟩) 2 2) [76, 71] := by
  refine ⟨⟨_, 2, rfl, Nat.le_refl _, by unfold maxLen; omega, (fun h => by cases h), fun j hj => ⟨_, 0, rfl, by simp, ?_⟩⟩, ⟨_, rfl⟩⟩
  unfold World.cell?
  rw [heap_alloc_new]
  match j, hj with
  | 0, _ => rfl
  | 1, _ => rfl
set_option maxRecDepth 100000 in
set_option maxHeartbeats 1000000 in
theorem walHead_any (age : Int) (h1 : 0 ≤ age) (h2 : age ≤ 4611686018427387904) (w : World) (hT : Half w) :
    Calls Tryz.prog 109 #[.int .i64 age] w (RowEnd w w.heap.size (St.logHead age)) := by
  have hcv : ∀ W : World, (convert 44 44 (.slice (some ⟨W.heap.size, 0, none⟩) 2 2)).run Tryz.prog (W.alloc (.cells #[.int .u8 76, .int .u8 71] 5)) = .ok (.slice (some ⟨W.heap.size, 0, none⟩) 2 2) (W.alloc (.cells #[.int .u8 76, .int .u8 71] 5 (2, 3))) := fun W =>
    Lib.run_convert_bytes_const W 44 5 #[.int .u8 76, .int .u8 71] 2 2 Tryz.underlying44 Tryz.underlying5
  have HN : Hid (∀ W, Calls Tryz.prog 90 #[.int .i64 age] W (RowEnd W W.heap.size (num age))) := fun W => wireNum_any age W (by omega) (by omega)
  have HL := Lib.hid (num_len (n := age) (by omega) (by omega))
  have HT := Lib.hid hT
  clear hT
  go_enter Tryz.func109, Tryz.ntmps109
  go_wp2_with (first
    | (go_at_call 90; refine (HN.out _).mono ?_; rintro e w1 ⟨v1, rfl, hr1, hb1⟩; obtain ⟨a1, c1, rfl, _⟩ := hr1.form; have HR1 := Lib.hid hr1; have HB1 := Lib.hid hb1; clear hr1 hb1)
    | (at_builtin; refine wpList_appx (w := w1) rfl _ _ rfl rfl rfl (a := [76, 71]) (b := num age) ⟨BytesIn.below (lg_cells w).1 HB1.out, ⟨_, rfl⟩⟩ (BytesIn.row HR1.out) (num_ne age) (by have := HL.out; simp; omega) ?_; intro v2 w2 hr2 hb2; obtain ⟨a2, c2, rfl, _⟩ := hr2.form; have HR2 := Lib.hid hr2; have HB2 : Hid (Below w.heap.size w w2) := (((Below.refl _ w).alloc (Nat.le_refl _) _).trans (HB1.out.mono (by simp))).trans (hb2.mono (by have := HB1.out.size; simp at this; omega)); clear hr2 hb2)
    | (go_at_call 145; refine (crcClose_any ([76, 71] ++ num age) w2 _ _ (HT.out.below HB2.out) HR2.out (by simp) (by have := HL.out; simp; omega)).mono ?_; rintro e w3 ⟨v3, rfl, hr3, hb3⟩; have HR3 := Lib.hid hr3; have HB3 := Lib.hid hb3; clear hr3 hb3))
  go_ret
  exact ⟨_, rfl, ⟨HR3.out.1, fun k hk => Nat.le_trans HB2.out.size (HR3.out.2 k hk)⟩, HB2.out.trans (HB3.out.mono HB2.out.size)⟩
end Go.Proofs.YtcpgbekcbaelpaaGreatDoor
/- Layer 5: a place's sectors, written and read. -/
namespace Go.Proofs.YtcpgbekcbaelpaaGreatDoor
open Go.RowKit Go.Maps Wr
set_option linter.unusedVariables false
set_option linter.unusedSimpArgs false
theorem box3 {w W : World} {a b c : Value} {T : TypeId} (h : Below (w.heap.size + 1) (w.alloc (.cells #[a, b, c] T)) W) : W.cell? ⟨w.heap.size, 0, none⟩ = some a ∧ W.cell? ⟨w.heap.size, 1, none⟩ = some b ∧ W.cell? ⟨w.heap.size, 2, none⟩ = some c := by
  have h0 := (h.block w.heap.size (by omega)).trans (heap_alloc_new w (.cells #[a, b, c] T))
  exact ⟨by simp [World.cell?, h0], by simp [World.cell?, h0], by simp [World.cell?, h0]⟩
theorem DkEndM.back {w w2 w3 : World} {g gm : Nat} {M R : Nat → Prop} {r : St.Dk × Int} {e : Ending} (hb : Below w.heap.size w w2) (h : DkEndM w2 g gm M R r e w3) : DkEndM w g gm M R r e w3 := by
  have hs := hb.size
  exact ⟨h.1, h.2.1.mono (fun k _ hk => hk.imp_right (fun h => by omega)) (fun k _ hk => hk.imp_right (fun h => by omega)), (Turn.of_below (M := M) hb).trans (M' := M) h.2.2 (fun _ h => .inl h)⟩
theorem pad_eq (b : List UInt8) (m : Nat) (hm : m = 512 - b.length) : b ++ St.zeros m = St.pad b := by rw [hm]; rfl
theorem wl_own {w w0 w1 w2 : World} {v v' : Value} {N : Nat} {b : List UInt8} (hB : Below (w.heap.size + 1) w0 w1) (h0 : w0.heap.size = w.heap.size + 1) (hr : ByteRow w1 N v b) (hN : w.heap.size + 1 ≤ N) (ho : OwnStep w1 v w2 v') : Below (w.heap.size + 1) w0 w2 :=
  hB.trans (ho.below (by have := hB.size; omega) (fun k hk => Nat.le_trans hN (hr.2 k hk)))
set_option maxRecDepth 100000 in
set_option maxHeartbeats 2000000 in
theorem walWriteM_any {w : World} {g gm : Nat} {D : St.Dk} {M R : Nat → Prop} (h : DkAtM w g gm D M R) (first : Int) (count : Int) (n : Int) (hf : 0 ≤ first ∧ first ≤ 1000000) (hn : 0 ≤ n ∧ n ≤ 1000000) (v : Value) (b : List UInt8) (hb : BytesIn w v b) (hl : b.length ≤ 512) (hw : D.waits.length ≤ 1000000) :
    Calls Tryz.prog 96 #[.agg #[.pointer (some ⟨g, 0, none⟩), .int .i64 first, .int .i64 count], .int .i64 n, v] w (DkEndM w g gm M R (D.write (first + n) (St.pad b))) := by
  have HH := Lib.hid h
  have HB := Lib.hid hb
  have HL := Lib.hid hl
  have HW := Lib.hid hw
  have HF := Lib.hid hf
  have HN := Lib.hid hn
  have hs1 : IntKind.i64.wrap (first + n) = first + n := by rw [IntKind.wrap_i64]; omega
  obtain ⟨m, hm⟩ : ∃ m : Nat, m = 512 - b.length := ⟨_, rfl⟩
  have hs2 : IntKind.i64.wrap (512 - (b.length : Int)) = (m : Int) := by rw [IntKind.wrap_i64]; omega
  have HM := Lib.hid hm
  obtain ⟨ao, cap, rfl, _⟩ := hb
  clear h hl hw hm hf hn
  go_enter Tryz.func96, Tryz.ntmps96
  go_wp2
  have B0 : Hid (Below (w.heap.size + 1) (w.alloc (.cells #[.pointer (some ⟨g, 0, none⟩), .int .i64 first, .int .i64 count] 169)) (w.alloc (.cells #[.pointer (some ⟨g, 0, none⟩), .int .i64 first, .int .i64 count] 169)).drew) := (Below.refl _ _).drew
  obtain ⟨c0, c1, c2⟩ := box3 B0.out
  go_region_law (first
    | (refine step_callw (by rfl) 124 #[.slice ao b.length cap] ?_ (clone_any _ b _ (HB.out.below (((Below.refl _ w).alloc (Nat.le_refl _) _).trans (B0.out.mono (by omega)))) (by have := HL.out; omega)) ?_; go_simp; rintro e w1 ⟨v1, rfl, hr1, hb1⟩; obtain ⟨a1, p1, rfl, _⟩ := hr1.form; refine ⟨.slice a1 b.length p1, rfl, ?_⟩; have B1 : Hid (Below (w.heap.size + 1) (w.alloc (.cells #[.pointer (some ⟨g, 0, none⟩), .int .i64 first, .int .i64 count] 169)) w1) := B0.out.trans (hb1.mono (by simp)); have HR1 := Lib.hid hr1; clear hr1 hb1; obtain ⟨d0, d1, d2⟩ := box3 B1.out)
    | (refine step_zeros (w := w1) (by rfl) _ _ rfl (v := .slice a1 b.length p1) (n := m) rfl rfl HR1.out (by have := B1.out.size; simp at this; simp; omega) (by have := HL.out; have := HM.out; omega) ?_; intro v2 w2 hr2 ho2; rw [pad_eq b m HM.out] at hr2; have B2 : Hid (Below (w.heap.size + 1) (w.alloc (.cells #[.pointer (some ⟨g, 0, none⟩), .int .i64 first, .int .i64 count] 169)) w2) := wl_own B1.out (by simp) HR1.out (by simp) ho2; obtain ⟨a2, p2, rfl, _⟩ := hr2.form; have HR2 := Lib.hid hr2; clear hr2 ho2; obtain ⟨f0, f1, f2⟩ := box3 B2.out)
    | (refine step_callw (by rfl) 67 #[.pointer (some ⟨g, 0, none⟩), .int .i64 (first + n), .slice a2 (St.pad b).length p2] ?_ (dkWriteM_any (HH.out.below (((Below.refl _ w).alloc (Nat.le_refl _) _).trans (B2.out.mono (by omega)))) (first + n) (WalkArith.wf_i64 (by have := HF.out; have := HN.out; omega)) _ (St.pad b) (BytesIn.row HR2.out) (by rw [St.pad_len HL.out]; omega) HW.out) ?_; go_simp; rintro e w3 he; have HE := Lib.hid (DkEndM.back (((Below.refl _ w).alloc (Nat.le_refl _) _).trans (B2.out.mono (by omega))) he); have he1 := he.1; subst he1; refine ⟨_, rfl, ?_⟩; clear he))
  all_goals (go_wp2; go_ret; exact ⟨rfl, HE.out.2⟩)
theorem walWrite_any {w : World} {g : Nat} {D : St.Dk} {M R : Nat → Prop} (h : DkAt w g D M R) (first : Int) (count : Int) (n : Int) (hf : 0 ≤ first ∧ first ≤ 1000000) (hn : 0 ≤ n ∧ n ≤ 1000000) (v : Value) (b : List UInt8) (hb : BytesIn w v b) (hl : b.length ≤ 512) (hw : D.waits.length ≤ 1000000) :
    Calls Tryz.prog 96 #[.agg #[.pointer (some ⟨g, 0, none⟩), .int .i64 first, .int .i64 count], .int .i64 n, v] w (DkEnd w g M R (D.write (first + n) (St.pad b))) := by
  obtain ⟨gm, h⟩ := h.atM
  exact (walWriteM_any h first count n hf hn v b hb hl hw).mono fun _ _ h => h.dkEnd
set_option maxRecDepth 100000 in
set_option maxHeartbeats 1000000 in
theorem walRead_any {w : World} {g : Nat} {D : St.Dk} {M R : Nat → Prop} (h : DkAt w g D M R) (first : Int) (count : Int) (n : Int) (hf : 0 ≤ first ∧ first ≤ 1000000) (hn : 0 ≤ n ∧ n ≤ 1000000) :
    Calls Tryz.prog 105 #[.agg #[.pointer (some ⟨g, 0, none⟩), .int .i64 first, .int .i64 count], .int .i64 n] w (ReadEnd w (D.read (first + n)).1 (D.read (first + n)).2) := by
  have HR := Lib.hid (dkRead_any (w := w.alloc (.cells #[.pointer (some ⟨g, 0, none⟩), .int .i64 first, .int .i64 count] 169)) (h.below ((Below.refl _ w).alloc (Nat.le_refl _) _)) (first + n) (WalkArith.wf_i64 (by omega)))
  obtain ⟨f1, f2⟩ := hf
  obtain ⟨n1, n2⟩ := hn
  clear h
  generalize D.read (first + n) = r at *
  go_enter Tryz.func105, Tryz.ntmps105
  go_wp2_with (go_at_call 100; refine HR.out.mono ?_; rintro e w1 ⟨v1, rfl, hr1, hb1⟩; obtain ⟨a1, p1, rfl, _⟩ := hr1.form; have HR1 := Lib.hid hr1; have HB1 := Lib.hid hb1; clear hr1 hb1)
  go_ret2
  exact ⟨_, rfl, ⟨HR1.out.1, fun k hk => Nat.le_trans (by simp) (HR1.out.2 k hk)⟩, ((Below.refl _ w).alloc (Nat.le_refl _) _).trans (HB1.out.mono (by simp))⟩
end Go.Proofs.YtcpgbekcbaelpaaGreatDoor
/- Layer 5: parts of bytes; are bytes these, and noughts. -/
namespace Go.Proofs.YtcpgbekcbaelpaaGreatDoor
open Go.RowKit Go.Maps Wr
set_option linter.unusedVariables false
set_option linter.unusedSimpArgs false
theorem u8_ofNat (l : List UInt8) : Lib.bytesOf (l.map fun b => (b.toNat : Int)) = l := by
  unfold Lib.bytesOf
  rw [List.map_map]
  refine (List.map_congr_left fun b _ => ?_).trans (List.map_id l)
  simp
theorem libIn {w : World} {ao : Option Addr} {cap : Nat} {b : List UInt8} (h : BytesIn w (.slice ao b.length cap) b) : Lib.BytesIn w ao b.length (b.map fun b => (b.toNat : Int)) := fun hp => by
  obtain ⟨ao', cap', e, _, _, _, h5⟩ := h
  cases e
  obtain ⟨g, o, e0, _, _⟩ := h5 0 hp
  refine ⟨g, o, e0, fun i hi => ?_⟩
  obtain ⟨g', o', e1, _, e2⟩ := h5 i hi
  rw [e0] at e1
  cases e1
  rw [e2]
  simp [List.getD_eq_getElem?_getD, hi]
theorem equal_any {w : World} {va vb : Value} {a b : List UInt8} (ha : BytesIn w va a) (hb : BytesIn w vb b) : Calls Tryz.prog 74 #[va, vb] w fun e w' => e = .returned (.bool (decide (a = b))) ∧ w = w' := by
  obtain ⟨ao, ca, ea, _⟩ := id ha
  obtain ⟨bo, cb, eb, _⟩ := id hb
  subst ea eb
  refine (Tryz.bytes_Equal_all ao bo a.length ca b.length cb (a.map fun b => (b.toNat : Int)) (b.map fun b => (b.toNat : Int)) w (by simp) (by simp) (libIn ha) (libIn hb)).mono ?_
  rintro e w' ⟨rfl, rfl⟩
  refine ⟨?_, rfl⟩
  rw [u8_ofNat, u8_ofNat]
  congr 2
  rw [Bool.eq_iff_iff]
  simp
theorem sliced_in {w : World} {ao : Option Addr} {n cap : Nat} {b : List UInt8} (h : BytesIn w (.slice ao n cap) b) (l k m : Nat) (hl : l + k ≤ b.length) (hk : l + k ≤ m) (hm : m ≤ cap) :
    ∃ a', sliced ao l (l + k) m 1 = .slice a' k (m - l) ∧ BytesIn w (.slice a' k (m - l)) ((b.drop l).take k) := by
  obtain ⟨ao', cap', e, h2, h3, h4, h5⟩ := h
  cases e
  have hlen : ((b.drop l).take k).length = k := by rw [List.length_take, List.length_drop]; omega
  refine ⟨if m = l then ao else ao.map (·.add (l * 1)), by unfold sliced; rw [show l + k - l = k by omega], ⟨_, m - l, by rw [hlen], by rw [hlen]; omega, by omega, fun hn => ?_, fun j hj => ?_⟩⟩
  · by_cases e : m = l
    · omega
    · rw [if_neg e] at hn
      cases ao with
      | none => have := h4 rfl; omega
      | some a => simp at hn
  · rw [hlen] at hj
    obtain ⟨g, o, e0, e1, e2⟩ := h5 (l + j) (by omega)
    subst e0
    refine ⟨g, o + l, ?_, e1, ?_⟩
    · rw [if_neg (by omega)]
      simp [Addr.add]
    · rw [show o + l + j = o + (l + j) by omega, e2]
      simp
theorem slice_l {w : World} {v : Value} {b : List UInt8} (h : BytesIn w v b) (l k : Nat) (hl : l + k = b.length) :
    ∃ a' c', (∀ W, (Instr.slice 44 v (some (.int .i64 (l : Int))) none none).run Tryz.prog W = .ok (.slice a' k c') W) ∧ BytesIn w (.slice a' k c') (b.drop l) := by
  obtain ⟨ao, cap, rfl, h2, _⟩ := id h
  have hs : ∀ W, (sizeOf (Tryz.prog.elem 44)).run Tryz.prog W = .ok 1 W := fun W => by kernel_rfl
  have hr := fun W : World => run_slice_l (P := Tryz.prog) (w := W) 44 ao b.length cap (by kernel_rfl) .i64 (l : Int) (by omega) (by omega)
  obtain ⟨a', e, hb⟩ := sliced_in h l k cap (by omega) (by omega) (Nat.le_refl _)
  simp only [hs, Result.andThen, Int.toNat_natCast] at hr
  simp only [← hl, e] at hr
  rw [List.take_of_length_le (by rw [List.length_drop]; omega)] at hb
  rw [← hl]
  exact ⟨a', _, hr, hb⟩
theorem slice_h {w : World} {v : Value} {b : List UInt8} (h : BytesIn w v b) (k : Nat) (hk : k ≤ b.length) :
    ∃ a' c', (∀ W, (Instr.slice 44 v none (some (.int .i64 (k : Int))) none).run Tryz.prog W = .ok (.slice a' k c') W) ∧ BytesIn w (.slice a' k c') (b.take k) := by
  obtain ⟨ao, cap, rfl, h2, _⟩ := id h
  have hs : ∀ W, (sizeOf (Tryz.prog.elem 44)).run Tryz.prog W = .ok 1 W := fun W => by kernel_rfl
  have hr := fun W : World => run_slice_h (P := Tryz.prog) (w := W) 44 ao b.length cap (by kernel_rfl) .i64 (k : Int) (by omega) (by omega)
  obtain ⟨a', e, hb⟩ := sliced_in h 0 k cap (by omega) (by omega) (Nat.le_refl _)
  simp only [hs, Result.andThen, Int.toNat_natCast] at hr
  rw [Nat.zero_add] at e
  simp only [e] at hr
  exact ⟨a', _, hr, hb⟩
theorem prefix_any {w : World} {va vb : Value} {a b : List UInt8} (ha : BytesIn w va a) (hb : BytesIn w vb b) : Calls Tryz.prog 146 #[va, vb] w fun e w' => e = .returned (.bool (decide (a.take b.length = b))) ∧ w = w' := by
  obtain ⟨ao, ca, ea, h1, _⟩ := id ha
  obtain ⟨bo, cb, eb, _⟩ := id hb
  subst ea eb
  refine (Tryz.bytes_HasPrefix_all ao bo a.length ca b.length cb (a.map fun b => (b.toNat : Int)) (b.map fun b => (b.toNat : Int)) w (by simp) (by simp) h1 (libIn ha) (libIn hb)).mono ?_
  rintro e w' ⟨rfl, rfl⟩
  refine ⟨?_, rfl⟩
  rw [u8_ofNat, u8_ofNat]
  congr 2
  rw [Bool.eq_iff_iff]
  unfold Lib.hasPrefix
  rw [decide_eq_true_eq, List.isPrefixOf_iff_prefix, List.prefix_iff_eq_take]
  exact ⟨fun h => h.symm, fun h => h.symm⟩
theorem wqs1 {P : Program} {f : FuncId} {args : Array Value} {w : World} {n : Nat} {v : Value} (h : Calls P f args (w.drewN n) fun e w' => e = .returned v ∧ w.drewN n = w') : Calls P f args (w.drewN n) fun e w'' => e = .returned v ∧ ∃ m, w'' = w.drewN m := h.mono fun _ _ ⟨he, hm⟩ => ⟨he, n, hm.symm⟩
def isB (s b : List UInt8) : Bool := decide (b.length ≤ s.length ∧ s = b ++ St.zeros (s.length - b.length))
theorem isB_long {s b : List UInt8} (h : ¬ b.length ≤ s.length) : isB s b = false := decide_eq_false (fun h2 => h h2.1)
theorem isB_pre {s b : List UInt8} (h : ¬ s.take b.length = b) : isB s b = false := decide_eq_false (fun h2 => h (by
  rw [h2.2]
  exact List.take_left))
theorem isB_of {s b : List UInt8} (h1 : b.length ≤ s.length) (h2 : s.take b.length = b) : isB s b = decide (s.drop b.length = St.zeros (s.length - b.length)) := by
  unfold isB
  rw [Bool.eq_iff_iff, decide_eq_true_eq, decide_eq_true_eq]
  constructor
  · rintro ⟨_, h⟩
    have h3 := congrArg (List.drop b.length) h
    rw [List.drop_left] at h3
    exact h3
  · intro h
    refine ⟨h1, ?_⟩
    rw [← h]
    have := List.take_append_drop b.length s
    rw [h2] at this
    exact this.symm
set_option maxRecDepth 100000 in
set_option maxHeartbeats 2000000 in
theorem walIs_any {w : World} {vs vb : Value} {s b : List UInt8} (hs : BytesIn w vs s) (hb : BytesIn w vb b) (hl : s.length ≤ 1000000) (hl2 : b.length ≤ 1000000) :
    Calls Tryz.prog 148 #[vs, vb] w fun e w' => e = .returned (.bool (isB s b)) ∧ Below w.heap.size w w' := by
  have HS := Lib.hid hs
  have HB := Lib.hid hb
  have HL2 := Lib.hid hl2
  obtain ⟨ao, ca, rfl, a1, _⟩ := hs
  obtain ⟨bo, cb, rfl, b1, _⟩ := hb
  by_cases hle : b.length ≤ s.length
  · by_cases hpre : s.take b.length = b
    · rw [isB_of hle hpre]
      obtain ⟨a', c', h1, h2⟩ := slice_h HS.out b.length hle
      obtain ⟨k, hk⟩ : ∃ k, b.length + k = s.length := ⟨s.length - b.length, by omega⟩
      obtain ⟨a2, c2, h3, h4⟩ := slice_l HS.out b.length k hk
      have HEB : Hid (∀ W, Below w.heap.size w W → Calls Tryz.prog 74 #[.slice a' b.length c', .slice bo b.length cb] W fun e w' => e = .returned (.bool true) ∧ W = w') := fun W hW => by
        have := equal_any (h2.below hW) (HB.out.below hW)
        rw [decide_eq_true hpre] at this
        exact this
      have HK : Hid (s.length - b.length = k) := by show _ = _; omega
      have HE2 : Hid (Calls Tryz.prog 74 #[.slice a2 k c2, .slice (some ⟨w.heap.size, 0, none⟩) k k] (w.alloc (.cells (madeCells #[.int .u8 0] k) 5)).drew fun e w' => e = .returned (.bool (decide (s.drop b.length = St.zeros k))) ∧ (w.alloc (.cells (madeCells #[.int .u8 0] k) 5)).drew = w') :=
        equal_any (h4.below (((Below.refl _ _).alloc (Nat.le_refl _) _).drew)) ((BytesIn.row (mk_row w k (by omega))).below (Below.refl _ _).drew)
      have hle2 : (b.length : Int) ≤ (s.length : Int) := by omega
      have hsub : IntKind.i64.wrap ((s.length : Int) - (b.length : Int)) = (k : Int) := by rw [IntKind.wrap_i64]; omega
      have hmk := fun W => run_mk_bytes k (by omega) W
      rw [HK.out]
      generalize decide (s.drop b.length = St.zeros k) = r at HE2 ⊢
      clear hle hpre h2 h4 hk
      go_enter Tryz.func148, Tryz.ntmps148
      go_wp2
      have HEW : Hid (∀ W, Below w.heap.size w W → Calls Tryz.prog 74 #[.slice a' b.length c', .slice bo b.length cb] W fun e w' => e = .returned (.bool true) ∧ W = w') := HEB.out
      have hal : ∀ (W : World) (o : Obj), Below w.heap.size w W → Below w.heap.size w (W.alloc o) := fun W o h => h.alloc h.size o
      have HAL := Lib.hid hal
      clear hal
      go_region_held3 (fun W => Below w.heap.size w W)
        (first | exact (Below.refl _ _).drew | exact Below.refl _ _ | assumption | exact HAL.out _ _ (by assumption))
        (first
          | (go_at_call 74; (with_reducible refine (HEW.out _ (by assumption)).mono ?_); rintro e w1 ⟨rfl, rfl⟩)
          | (go_at_call 74; (with_reducible refine HE2.out.mono ?_); rintro e w1 ⟨rfl, rfl⟩))
      go_wp2
      go_ret
      exact ⟨rfl, ((Below.refl _ _).alloc (Nat.le_refl _) _).drew⟩
    · rw [isB_pre hpre]
      obtain ⟨a', c', h1, h2⟩ := slice_h HS.out b.length hle
      have HE : Hid (∀ n, Calls Tryz.prog 74 #[.slice a' b.length c', .slice bo b.length cb] (w.drewN n) fun e w' => e = .returned (.bool false) ∧ w.drewN n = w') := fun n => by
        have := equal_any (h2.below (below_drewN (Below.refl _ _) n)) (HB.out.below (below_drewN (Below.refl _ _) n))
        rw [decide_eq_false hpre] at this
        exact this
      have hle2 : (b.length : Int) ≤ (s.length : Int) := by omega
      clear hle hpre h2
      go_enter Tryz.func148, Tryz.ntmps148
      go_wp2
      go_quiet ((go_at_call 74; exact wqs1 (HE.out _)))
      go_wp2
      go_ret
      exact ⟨rfl, below_drewN (Below.refl _ _) _⟩
  · rw [isB_long hle]
    have q0 : (decide ((b.length : Int) ≤ (s.length : Int))) = false := by simpa using hle
    have q1 : decide (b.length ≤ s.length) = false := by simpa using hle
    clear hle
    go_enter Tryz.func148, Tryz.ntmps148
    go_wp2
    go_quiet (fail)
    go_wp2
    go_ret
    exact ⟨rfl, below_drewN (Below.refl _ _) _⟩
end Go.Proofs.YtcpgbekcbaelpaaGreatDoor
/- Layer 5: the age that a head says; a record's first sector. -/
namespace Go.Proofs.YtcpgbekcbaelpaaGreatDoor
open Go.RowKit Go.Maps Wr
set_option linter.unusedVariables false
set_option linter.unusedSimpArgs false
theorem isB_head {s b : List UInt8} (hs : s.length = 512) : isB s b = decide (s = St.pad b ∧ b.length ≤ 512) := by
  unfold isB St.pad
  rw [hs, Bool.eq_iff_iff, decide_eq_true_eq, decide_eq_true_eq]
  exact ⟨fun h => ⟨h.2, h.1⟩, fun h => ⟨h.2, h.1⟩⟩
theorem lg_in (w : World) : BytesIn (w.alloc (.cells #[.int .u8 76, .int .u8 71] 5 (2, 3))) (.slice (some ⟨w.heap.size, 0, none⟩) 2 2) [76, 71] := (lg_cells w).1
theorem wl_in {w w0 w1 w2 : World} {p : Nat} (h0 : Below w.heap.size w w0) (h1 : Below w0.heap.size w0 w1) (h2 : Chg [p] w1 w2) (hp : w0.heap.size ≤ p) : Below w.heap.size w w2 := by
  have z0 := h0.size
  have z1 := h1.size
  exact (h0.trans (h1.mono z0)).trans (h2.below (by omega) (fun k hk => by simp at hk; omega))
theorem rn_bounds {lo hi : Int} (b : List UInt8) (x : Int) (h1 : lo ≤ hi) : (rn lo hi b x).1 = 0 ∨ (lo ≤ (rn lo hi b x).1 ∧ (rn lo hi b x).1 ≤ hi) := by
  unfold rn
  split
  · cases h : rdNum lo hi b with
    | error e => exact .inl rfl
    | ok p =>
      right
      unfold rdNum at h
      cases h1 : rdv 10 0 0 b with
      | error e => rw [h1] at h; cases h
      | ok q =>
        rw [h1] at h
        obtain ⟨u, r⟩ := q
        dsimp only at h
        split at h
        · cases h
        · rename_i hn
          cases h
          dsimp only
          omega
  · exact .inl rfl
set_option maxRecDepth 100000 in
set_option maxHeartbeats 2000000 in
theorem walAgeOf_any {w : World} {v : Value} {s : List UInt8} (hs : BytesIn w v s) (hl : s.length = 512) (hT : Half w) :
    Calls Tryz.prog 106 #[v] w fun e w' => e = .returned (.int .i64 (St.ageOf s)) ∧ Below w.heap.size w w' := by
  have hcv : ∀ W : World, (convert 44 44 (.slice (some ⟨W.heap.size, 0, none⟩) 2 2)).run Tryz.prog (W.alloc (.cells #[.int .u8 76, .int .u8 71] 5)) = .ok (.slice (some ⟨W.heap.size, 0, none⟩) 2 2) (W.alloc (.cells #[.int .u8 76, .int .u8 71] 5 (2, 3))) := fun W =>
    Lib.run_convert_bytes_const W 44 5 #[.int .u8 76, .int .u8 71] 2 2 Tryz.underlying44 Tryz.underlying5
  have B0 : Hid (Below w.heap.size w (w.alloc (.cells #[.int .u8 76, .int .u8 71] 5 (2, 3)))) := (Below.refl _ w).alloc (Nat.le_refl _) _
  have HP := Lib.hid (prefix_any (hs.below B0.out) (lg_in w))
  have HS := Lib.hid hs
  have HT := Lib.hid hT
  have HL := Lib.hid hl
  obtain ⟨ao, ca, rfl, a1, a2, _⟩ := hs
  by_cases hp : s.take 2 = [76, 71]
  · have HP' : Hid (Calls Tryz.prog 146 #[.slice ao s.length ca, .slice (some ⟨w.heap.size, 0, none⟩) 2 2] (w.alloc (.cells #[.int .u8 76, .int .u8 71] 5 (2, 3))) fun e w' => e = .returned (.bool true) ∧ (w.alloc (.cells #[.int .u8 76, .int .u8 71] 5 (2, 3))) = w') := by
      have := HP.out
      rw [show decide (List.take ([76, 71] : List UInt8).length s = [76, 71]) = true from decide_eq_true hp] at this
      exact this
    obtain ⟨b1, c1, h1, h2⟩ := slice_l HS.out 2 510 (by omega)
    have h1' : ∀ W, (Instr.slice 44 (.slice ao s.length ca) (some (.int .i64 2)) none none).run Tryz.prog W = .ok (.slice b1 510 c1) W := h1
    clear h1
    have HO := Lib.hid (open_any _ (s.drop 2) _ (h2.below B0.out) (by rw [List.length_drop]; omega))
    have hrb := rn_bounds (lo := 1) (hi := St.mostAge) (s.drop 2) 0 (by decide)
    have hag : St.ageOf s = if (rn 1 St.mostAge (s.drop 2) 0).1 ≠ 0 ∧ s = St.pad (St.logHead (rn 1 St.mostAge (s.drop 2) 0).1) ∧ (St.logHead (rn 1 St.mostAge (s.drop 2) 0).1).length ≤ 512 then (rn 1 St.mostAge (s.drop 2) 0).1 else 0 := by unfold St.ageOf; rw [if_pos hp]
    have HAG := Lib.hid hag
    obtain ⟨n, hn⟩ : ∃ n, (rn 1 St.mostAge (s.drop 2) 0).1 = n := ⟨_, rfl⟩
    have HN := Lib.hid hn
    rw [hn] at hrb hag
    have HRB := Lib.hid hrb
    rw [hag]
    clear hp h2 hrb hl hag hn
    by_cases h0 : n = 0
    · rw [if_neg (fun h => h.1 h0)]
      subst h0
      go_enter Tryz.func106, Tryz.ntmps106
      go_wp2_with (first
        | (go_at_call 146; refine HP'.out.mono ?_; rintro e w1 ⟨rfl, rfl⟩)
        | (go_at_call 110; refine HO.out.mono ?_; rintro e w1 ⟨p, M, rfl, hp1, hp2, hin, hb⟩; have HIN := Lib.hid hin; have HP1 := Lib.hid hp1; have HB1 := Lib.hid hb; clear hp1 hp2 hin hb)
        | (go_at_call 111; refine (wNum_fn p (s.drop 2) 0 1 St.mostAge w1 HIN.out (by rw [List.length_drop, HL.out]; omega)).mono ?_; rintro e w2 ⟨he, _, hc⟩; rw [HN.out] at he; subst he; have HC := Lib.hid hc; clear hc))
      go_ret
      exact ⟨rfl, wl_in B0.out HB1.out HC.out HP1.out⟩
    · have h0b : (n == 0) = false := by simpa using h0
      have hrb2 : 1 ≤ n ∧ n ≤ 4611686018427387904 := by
        rcases HRB.out with h | h
        · exact absurd h h0
        · exact h
      have hh : Hid (∀ W, Half W → Calls Tryz.prog 109 #[.int .i64 n] W (RowEnd W W.heap.size (St.logHead n))) := fun W hW => walHead_any n (by omega) (by omega) W hW
      have hll : (St.logHead n).length ≤ 1000000 := by
        have := num_len (n := n) (by omega) (by omega)
        unfold St.logHead
        rw [St.close_len, List.length_append]
        show 2 + _ + 4 ≤ _
        omega
      have HLL := Lib.hid hll
      have HIF : Hid ((if n ≠ 0 ∧ s = St.pad (St.logHead n) ∧ (St.logHead n).length ≤ 512 then n else 0) = if isB s (St.logHead n) = true then n else 0) := by
        show _ = _
        rw [isB_head HL.out]
        by_cases h2 : s = St.pad (St.logHead n) ∧ (St.logHead n).length ≤ 512
        · rw [if_pos ⟨h0, h2⟩, if_pos (decide_eq_true h2)]
        · rw [if_neg (fun h => h2 h.2), if_neg (by rw [decide_eq_false h2]; decide)]
      rw [HIF.out]
      obtain ⟨r, hr⟩ : ∃ r, isB s (St.logHead n) = r := ⟨_, rfl⟩
      have HRR := Lib.hid hr
      rw [hr]
      clear h0 hrb2 hll hr
      cases r <;>
      (go_enter Tryz.func106, Tryz.ntmps106
       go_wp2_with (first
        | (go_at_call 146; refine HP'.out.mono ?_; rintro e w1 ⟨rfl, rfl⟩)
        | (go_at_call 110; refine HO.out.mono ?_; rintro e w1 ⟨p, M, rfl, hp1, hp2, hin, hb⟩; have HIN := Lib.hid hin; have HP1 := Lib.hid hp1; have HB1 := Lib.hid hb; clear hp1 hp2 hin hb)
        | (go_at_call 111; refine (wNum_fn p (s.drop 2) 0 1 St.mostAge w1 HIN.out (by rw [List.length_drop, HL.out]; omega)).mono ?_; rintro e w2 ⟨he, _, hc⟩; rw [HN.out] at he; subst he; have hw2 := wl_in B0.out HB1.out hc HP1.out; have HW2 := Lib.hid hw2; clear hc hw2)
        | (go_at_call 109; refine (hh.out w2 (HT.out.below HW2.out)).mono ?_; rintro e w3 ⟨v3, rfl, hr3, hb3⟩; obtain ⟨a3, c3, rfl, _⟩ := hr3.form; have HR3 := Lib.hid hr3; have HB3 : Hid (Below w.heap.size w w3) := HW2.out.trans (hb3.mono HW2.out.size); clear hr3 hb3)
        | (go_at_call 148; refine (walIs_any (HS.out.below HB3.out) (BytesIn.row HR3.out) (by rw [HL.out]; omega) HLL.out).mono ?_; rintro e w4 ⟨he, hb4⟩; rw [HRR.out] at he; subst he; have HB4 : Hid (Below w.heap.size w w4) := HB3.out.trans (hb4.mono HB3.out.size); clear hb4))
       go_ret
       exact ⟨rfl, HB4.out⟩)
  · have hag : St.ageOf s = 0 := by unfold St.ageOf; rw [if_neg hp]
    rw [hag]
    have HP' : Hid (Calls Tryz.prog 146 #[.slice ao s.length ca, .slice (some ⟨w.heap.size, 0, none⟩) 2 2] (w.alloc (.cells #[.int .u8 76, .int .u8 71] 5 (2, 3))) fun e w' => e = .returned (.bool false) ∧ (w.alloc (.cells #[.int .u8 76, .int .u8 71] 5 (2, 3))) = w') := by
      have := HP.out
      rw [show decide (List.take ([76, 71] : List UInt8).length s = [76, 71]) = false from decide_eq_false hp] at this
      exact this
    clear hp hl hag HP
    go_enter Tryz.func106, Tryz.ntmps106
    go_wp2_with (go_at_call 146; refine HP'.out.mono ?_; rintro e w1 ⟨rfl, rfl⟩)
    go_ret
    exact ⟨rfl, B0.out⟩
end Go.Proofs.YtcpgbekcbaelpaaGreatDoor
/- Layer 5: a record's first sector. -/
namespace Go.Proofs.YtcpgbekcbaelpaaGreatDoor
open Go.RowKit Go.Maps Wr
set_option linter.unusedVariables false
set_option linter.unusedSimpArgs false
theorem crc_le (b : List UInt8) : St.crc b ≤ 4294967295 := by unfold St.crc St.crcMore; omega
theorem one_cell (w : World) (v : Value) (t : TypeId) : (w.alloc (.cells #[v] t)).cell? ⟨w.heap.size, 0, none⟩ = some v := clo_cell w v t
theorem h_cell (w : World) (x : UInt8) : BFull (w.alloc (.cells #[.int .u8 (x.toNat : Int)] 5)) (.slice (some ⟨w.heap.size, 0, none⟩) 1 1) [x] := by
  refine ⟨⟨_, 1, rfl, Nat.le_refl _, by unfold maxLen; omega, (fun h => by cases h), fun j hj => ⟨_, 0, rfl, by simp, ?_⟩⟩, ⟨_, rfl⟩⟩
  unfold World.cell?
  rw [heap_alloc_new]
  match j, hj with
  | 0, _ => rfl
theorem close_ne (b : List UInt8) : St.close b ≠ [] := fun h => by
  have := congrArg List.length h
  rw [St.close_len] at this
  simp at this
theorem wl_b3 {w w1 w2 w3 : World} (h1 : Below w.heap.size w w1) (h2 : Below w1.heap.size w1 w2) (h3 : Below w2.heap.size w2 w3) (o : Obj) : Below w.heap.size w (w3.alloc o) := by
  have z1 := h1.size
  have z2 := h2.size
  have z3 := h3.size
  exact ((h1.trans (h2.mono z1)).trans (h3.mono (by omega))).alloc (by omega) o
theorem wl_b5 {w w3 w4 w5 : World} {o : Obj} (h3 : Below w.heap.size w w3) (h4 : Below w3.heap.size w3 w4) (h5 : Below (w4.alloc o).heap.size (w4.alloc o) w5) : Below w.heap.size w w5 := by
  have z3 := h3.size
  have z4 := h4.size
  exact ((h3.trans (h4.mono z3)).alloc (by omega) o).trans (h5.mono (by simp; omega))
theorem four_rows {w : World} {l0 l1 l2 l3 : List UInt8} {v0 v1 v2 v3 : Value} {M0 M1 M2 M3 : Nat} {t : TypeId} (h0 : ByteRow w M0 v0 l0) (h1 : ByteRow w M1 v1 l1) (h2 : ByteRow w M2 v2 l2) (h3 : ByteRow w M3 v3 l3) :
    ∀ i l, ([l0, l1, l2, l3] : List (List UInt8))[i]? = some l → ∃ v M, (w.alloc (.cells #[v0, v1, v2, v3] t)).cell? ⟨w.heap.size, i, none⟩ = some v ∧ ByteRow (w.alloc (.cells #[v0, v1, v2, v3] t)) M v l := by
  intro i l hl
  have hb : Below w.heap.size w (w.alloc (.cells #[v0, v1, v2, v3] t)) := (Below.refl _ _).alloc (Nat.le_refl _) _
  have hc : (w.alloc (.cells #[v0, v1, v2, v3] t)).heap[w.heap.size]? = some (.cells #[v0, v1, v2, v3] t (0, 0)) := heap_alloc_new w _
  match i, hl with
  | 0, hl => cases hl; exact ⟨v0, M0, by unfold World.cell?; rw [hc]; rfl, h0.below hb⟩
  | 1, hl => cases hl; exact ⟨v1, M1, by unfold World.cell?; rw [hc]; rfl, h1.below hb⟩
  | 2, hl => cases hl; exact ⟨v2, M2, by unfold World.cell?; rw [hc]; rfl, h2.below hb⟩
  | 3, hl => cases hl; exact ⟨v3, M3, by unfold World.cell?; rw [hc]; rfl, h3.below hb⟩
  | i + 4, hl => simp at hl
set_option maxRecDepth 100000 in
set_option maxHeartbeats 2000000 in
theorem walFirst_any {w : World} {v : Value} {b : List UInt8} {N : Nat} (age n : Int) (h1 : 0 ≤ age ∧ age ≤ 4611686018427387904) (h2 : 0 ≤ n ∧ n ≤ 4611686018427387904) (hb : ByteRow w N v b) (hl : b.length ≤ 16777216) (hT : Half w) :
    Calls Tryz.prog 98 #[.int .i64 age, .int .i64 n, v] w (RowEnd w w.heap.size (St.logFirst age n b)) := by
  have HT := Lib.hid hT
  have HB := Lib.hid hb
  have HL := Lib.hid hl
  have HA : Hid (∀ W, Calls Tryz.prog 90 #[.int .i64 age] W (RowEnd W W.heap.size (num age))) := fun W => wireNum_any age W (by omega) (by omega)
  have HN : Hid (∀ W, Calls Tryz.prog 90 #[.int .i64 n] W (RowEnd W W.heap.size (num n))) := fun W => wireNum_any n W (by omega) (by omega)
  have HZ : Hid (∀ W, Calls Tryz.prog 90 #[.int .i64 (b.length : Int)] W (RowEnd W W.heap.size (num b.length))) := fun W => wireNum_any _ W (by omega) (by omega)
  have hcr := crc_le b
  have HC : Hid (∀ W, Calls Tryz.prog 90 #[.int .i64 ((St.crc b : Nat) : Int)] W (RowEnd W W.heap.size (num (St.crc b : Nat)))) := fun W => wireNum_any _ W (by omega) (by omega)
  have LA := Lib.hid (num_len (n := age) (by omega) (by omega))
  have LN := Lib.hid (num_len (n := n) (by omega) (by omega))
  have LZ := Lib.hid (num_len (n := (b.length : Int)) (by omega) (by omega))
  have LC := Lib.hid (num_len (n := ((St.crc b : Nat) : Int)) (by omega) (by omega))
  have hcv : ∀ W : World, (convert 180 3 (.int .u32 ((St.crc b : Nat) : Int))).run Tryz.prog W = .ok (.int .i64 ((St.crc b : Nat) : Int)) W := fun W => by
    have hw : IntKind.i64.wrap ((St.crc b : Nat) : Int) = ((St.crc b : Nat) : Int) := by rw [IntKind.wrap_i64]; omega
    simp [convert, run_underlying Tryz.underlying180, run_underlying Tryz.underlying3, hw, go_sem]
  obtain ⟨fl, hfl⟩ : ∃ fl, [num age, num n, num b.length, num (St.crc b : Nat)].flatten = fl := ⟨_, rfl⟩
  have hfn : fl ≠ [] := by rw [← hfl]; simp [num_ne]
  have hfz : fl.length ≤ 40 := by
    have := LA.out; have := LN.out; have := LZ.out; have := LC.out
    rw [← hfl]
    simp only [List.flatten_cons, List.flatten_nil, List.length_append, List.length_nil]
    omega
  have HFL := Lib.hid hfl
  have HFN := Lib.hid hfn
  have HFZ := Lib.hid hfz
  obtain ⟨ao, cap, rfl, _⟩ := hb.form
  clear hb hl hT hcr h1 h2 hfl hfn hfz
  go_enter Tryz.func98, Tryz.ntmps98
  go_wp2_with (first
    | (go_at_call 90; (with_reducible refine (HA.out _).mono ?_); rintro e w1 ⟨v1, rfl, hr1, hb1⟩; obtain ⟨a1, c1, rfl, _⟩ := hr1.form; have HR1 := Lib.hid hr1; have HB1 := Lib.hid hb1; clear hr1 hb1 HA)
    | (go_at_call 90; (with_reducible refine (HN.out _).mono ?_); rintro e w2 ⟨v2, rfl, hr2, hb2⟩; obtain ⟨a2, c2, rfl, _⟩ := hr2.form; have HR2 := Lib.hid hr2; have HB2 := Lib.hid hb2; clear hr2 hb2 HN)
    | (go_at_call 90; (with_reducible refine (HZ.out _).mono ?_); rintro e w3 ⟨v3, rfl, hr3, hb3⟩; obtain ⟨a3, c3, rfl, _⟩ := hr3.form; have HR3 := Lib.hid hr3; have HB3 := Lib.hid hb3; clear hr3 hb3 HZ)
    | (go_at_call 103; refine (crcSum_any b _ N _ _ (HT.out.below (wl_b3 HB1.out HB2.out HB3.out _)) (HB.out.below (wl_b3 HB1.out HB2.out HB3.out _)) (by have := HL.out; omega) (one_cell _ _ _)).mono ?_; rintro e w4 ⟨rfl, rfl⟩)
    | (go_at_call 90; (with_reducible refine (HC.out _).mono ?_); rintro e w4 ⟨v4, rfl, hr4, hb4⟩; obtain ⟨a4, c4, rfl, _⟩ := hr4.form; have HR4 := Lib.hid hr4; have HB4 := Lib.hid hb4; clear hr4 hb4 HC)
    | (go_at_call 93; refine (concat_any [num age, num n, num b.length, num (St.crc b : Nat)] _ w4.heap.size (by intro l hl; simp at hl; rcases hl with rfl | rfl | rfl | rfl <;> exact num_ne _) (by have := LA.out; have := LN.out; have := LZ.out; have := LC.out; simp only [List.flatten_cons, List.flatten_nil, List.length_append, List.length_nil]; omega) (by simp) (four_rows ((((HR1.out.below HB2.out).below HB3.out).below ((Below.refl _ _).alloc (Nat.le_refl _) _)).below HB4.out) (((HR2.out.below HB3.out).below ((Below.refl _ _).alloc (Nat.le_refl _) _)).below HB4.out) ((HR3.out.below ((Below.refl _ _).alloc (Nat.le_refl _) _)).below HB4.out) HR4.out)).mono ?_; rintro e w5 ⟨v5, rfl, hr5, hb5⟩; rw [HFL.out] at hr5; obtain ⟨a5, c5, rfl, _⟩ := hr5.form; have HR5 := Lib.hid hr5; have HB5 : Hid (Below w.heap.size w w5) := wl_b5 (wl_b3 HB1.out HB2.out HB3.out _) HB4.out hb5; clear hr5 hb5)
    | (go_at_call 145; refine (crcClose_any fl (w5.alloc (.cells #[.int .u8 72] 5)) w4.heap.size (.slice a5 fl.length c5) ((HT.out.below HB5.out).below ((Below.refl _ _).alloc (Nat.le_refl _) _)) ⟨(HR5.out.below ((Below.refl _ _).alloc (Nat.le_refl _) _)).1, fun k hk => by have := HR5.out.2 k hk; simp at this; omega⟩ HFN.out (by have := HFZ.out; omega)).mono ?_; rintro e w6 ⟨v6, rfl, hr6, hb6⟩; obtain ⟨a6, c6, rfl, _⟩ := hr6.form; have HR6 := Lib.hid hr6; have HB6 := Lib.hid hb6; clear hr6 hb6)
    | (at_builtin; refine wpList_appx (w := w6) rfl _ _ rfl rfl rfl (a := [72]) ⟨BytesIn.below (h_cell w5 72).1 HB6.out, ⟨_, rfl⟩⟩ (BytesIn.row HR6.out) (close_ne _) (by rw [St.close_len]; have := HFZ.out; simp only [List.length_cons, List.length_nil]; omega) ?_; intro v7 w7 hr7 hb7; obtain ⟨a7, c7, rfl, _⟩ := hr7.form; have HR7 := Lib.hid hr7; have HB7 := Lib.hid hb7; clear hr7 hb7))
  go_ret
  have hb6 : Below w.heap.size w w6 := (HB5.out.alloc HB5.out.size _).trans (HB6.out.mono (by have := HB5.out.size; simp; omega))
  refine ⟨_, rfl, ⟨?_, fun k hk => Nat.le_trans hb6.size (HR7.out.2 k hk)⟩, hb6.trans (HB7.out.mono hb6.size)⟩
  have e : ([72] : List UInt8) ++ St.close fl = St.logFirst age n b := by
    rw [← HFL.out]
    unfold St.logFirst
    simp only [List.flatten_cons, List.flatten_nil, List.append_nil, List.append_assoc]
    rfl
  rw [← e]
  exact HR7.out.1
end Go.Proofs.YtcpgbekcbaelpaaGreatDoor
/- Layer 5: a log is laid. -/
namespace Go.Proofs.YtcpgbekcbaelpaaGreatDoor
open Go.RowKit Go.Maps Wr
set_option linter.unusedVariables false
set_option linter.unusedSimpArgs false
def errOf {α : Type} : Except Int α → Int
  | .ok _ => 0
  | .error e => e
def DmEnd {α : Type} (w : World) (g : Nat) (M R : Nat → Prop) (r : Except Int α × St.Dk) (e : Ending) (w' : World) : Prop :=
  e = .returned (.int .i64 (errOf r.1)) ∧ DkAt w' g r.2 (Gro M w.heap.size) (Gro R w.heap.size) ∧ Turn M w w'
def Clip (M : Nat → Prop) (w : World) : Nat → Prop := fun k => M k ∧ k < w.heap.size
theorem DkAt.clip {w : World} {g : Nat} {D : St.Dk} {M R : Nat → Prop} (h : DkAt w g D M R) : DkAt w g D (Clip M w) (Clip R w) := h.mono (fun _ hl h => ⟨h, hl⟩) (fun _ hl h => ⟨h, hl⟩)
theorem DmEnd.unclip {α : Type} {w : World} {g : Nat} {M R : Nat → Prop} {r : Except Int α × St.Dk} {e : Ending} {w' : World} (h : DmEnd w g (Clip M w) (Clip R w) r e w') : DmEnd w g M R r e w' :=
  ⟨h.1, h.2.1.mono (fun _ _ h => h.imp_left And.left) (fun _ _ h => h.imp_left And.left), h.2.2.mono (fun _ h => h.1)⟩
theorem Half.turn {w w' : World} {M : Nat → Prop} (h : Half w) (ht : Turn M w w') (hG : ¬ M 0) : Half w' := fun i hi => (ht.cell (p := ⟨0, i, none⟩) (half_lt (h i hi)) hG).trans (h i hi)
theorem Half.lt {w : World} (h : Half w) : 0 < w.heap.size := half_lt (h 0 (by omega))
theorem DkEnd.more {w w1 w2 : World} {g : Nat} {M R : Nat → Prop} {n0 : Nat} {r : St.Dk × Int} {e : Ending} (ht : Turn M w w1) (hn : n0 ≤ w1.heap.size) (hw : n0 = w.heap.size) (h : DkEnd w1 g (Gro M n0) (Gro R n0) r e w2) : DkAt w2 g r.1 (Gro M n0) (Gro R n0) ∧ Turn M w w2 :=
  ⟨h.2.1.mono (fun _ _ h => h.gro hn) (fun _ _ h => h.gro hn), ht.then (hw ▸ h.2.2)⟩
theorem write_waits (D : St.Dk) (i : Int) (b : List UInt8) : (D.write i b).1.waits.length ≤ D.waits.length + 1 := by
  unfold St.Dk.write St.Dk.spend
  split
  · simp
  · split
    · simp
    · split
      · simp
      · split <;> simp_all
theorem writeD_ok {D : St.Dk} {i : Int} {b : List UInt8} (h : (D.write i b).2 = 0) : St.writeD i b D = (.ok (), (D.write i b).1) := by unfold St.writeD; rw [if_pos h]
theorem writeD_no {D : St.Dk} {i : Int} {b : List UInt8} (h : (D.write i b).2 ≠ 0) : St.writeD i b D = (.error (D.write i b).2, (D.write i b).1) := by unfold St.writeD; rw [if_neg h]
theorem barrierD_ok {D : St.Dk} (h : D.barrier.2 = 0) : St.barrierD D = (.ok (), D.barrier.1) := by unfold St.barrierD; rw [if_pos h]
theorem barrierD_no {D : St.Dk} (h : D.barrier.2 ≠ 0) : St.barrierD D = (.error D.barrier.2, D.barrier.1) := by unfold St.barrierD; rw [if_neg h]
theorem andThen_ok {α β : Type} {m : St.DM α} {f : α → St.DM β} {D D' : St.Dk} {a : α} (h : m D = (.ok a, D')) : (m.andThen f) D = f a D' := by unfold St.DM.andThen; rw [h]
theorem andThen_no {α β : Type} {m : St.DM α} {f : α → St.DM β} {D D' : St.Dk} {e : Int} (h : m D = (.error e, D')) : (m.andThen f) D = (.error e, D') := by unfold St.DM.andThen; rw [h]
theorem writesD_snoc (b : List UInt8) : ∀ (l : List (List UInt8)) (i : Int) (D D' : St.Dk), St.writesD i l D = (.ok (), D') → St.writesD i (l ++ [b]) D = St.writeD (i + l.length) b D'
  | [], i, D, D', h => by
    cases h
    show (St.writeD i b).andThen _ D = _
    rw [List.length_nil]
    simp only [Int.natCast_zero, Int.add_zero]
    unfold St.DM.andThen
    cases h1 : St.writeD i b D with
    | mk r d =>
      cases r with
      | ok u => rfl
      | error e => rfl
  | c :: l, i, D, D', h => by
    rw [St.writesD] at h
    rw [List.cons_append, St.writesD]
    cases h1 : St.writeD i c D with
    | mk r d =>
      cases r with
      | error e => rw [andThen_no h1] at h; cases h
      | ok u =>
        rw [andThen_ok h1] at h ⊢
        rw [writesD_snoc b l _ _ _ h, List.length_cons]
        congr 1
        push_cast
        omega
theorem writesD_stop (b : List UInt8) (r : List (List UInt8)) : ∀ (l : List (List UInt8)) (i : Int) (D D' D2 : St.Dk) (e : Int), St.writesD i l D = (.ok (), D') → St.writeD (i + l.length) b D' = (.error e, D2) → St.writesD i (l ++ b :: r) D = (.error e, D2)
  | [], i, D, D', D2, e, h, h2 => by
    cases h
    simp only [List.length_nil, Int.natCast_zero, Int.add_zero] at h2
    rw [List.nil_append, St.writesD, andThen_no h2]
  | c :: l, i, D, D', D2, e, h, h2 => by
    rw [St.writesD] at h
    rw [List.cons_append, St.writesD]
    cases h1 : St.writeD i c D with
    | mk r' d =>
      cases r' with
      | error e => rw [andThen_no h1] at h; cases h
      | ok u =>
        rw [andThen_ok h1] at h ⊢
        refine writesD_stop b r l _ _ _ _ _ h ?_
        rw [← h2, List.length_cons]
        congr 1
        push_cast
        omega
theorem writesD_waits : ∀ (l : List (List UInt8)) (i : Int) (D D' : St.Dk), St.writesD i l D = (.ok (), D') → D'.waits.length ≤ D.waits.length + l.length ∧ D'.last.length = D.last.length
  | [], i, D, D', h => by cases h; simp
  | c :: l, i, D, D', h => by
    rw [St.writesD] at h
    cases h1 : St.writeD i c D with
    | mk r d =>
      cases r with
      | error e => rw [andThen_no h1] at h; cases h
      | ok u =>
        rw [andThen_ok h1] at h
        have := writesD_waits l _ _ _ h
        have h2 : d = (D.write i c).1 := by
          unfold St.writeD at h1
          split at h1
          · cases h1; rfl
          · cases h1
        have h3 := write_waits D i c
        rw [h2] at this
        have h4 : (D.write i c).1.last.length = D.last.length := by
          unfold St.Dk.write St.Dk.spend
          split
          · rfl
          · split
            · rfl
            · split
              · rfl
              · split <;> rfl
        rw [List.length_cons]
        omega
theorem dk_fin {w W0 wr w2 : World} {g : Nat} {D : St.Dk} {M R : Nat → Prop} (hb : Below w.heap.size w W0) (ht : Turn M W0 wr) (hd : DkAt w2 g D (Gro (Gro M W0.heap.size) wr.heap.size) (Gro (Gro R W0.heap.size) wr.heap.size)) (ht2 : Turn (Gro M W0.heap.size) wr w2) :
    DkAt w2 g D (Gro M w.heap.size) (Gro R w.heap.size) ∧ Turn M w w2 := by
  have h1 := hb.size
  have h2 := ht.size
  exact ⟨hd.mono (fun _ _ h => (h.gro h2).imp_right (fun h => by omega)) (fun _ _ h => (h.gro h2).imp_right (fun h => by omega)), (Turn.of_below (M := M) hb).trans (M' := M) (ht.then ht2) (fun _ h => .inl h)⟩
theorem dk_fin0 {w W0 wr : World} {g : Nat} {D : St.Dk} {M R : Nat → Prop} (hb : Below w.heap.size w W0) (ht : Turn M W0 wr) (hd : DkAt wr g D (Gro M W0.heap.size) (Gro R W0.heap.size)) :
    DkAt wr g D (Gro M w.heap.size) (Gro R w.heap.size) ∧ Turn M w wr := by
  have h1 := hb.size
  exact ⟨hd.mono (fun _ _ h => h.imp_right (fun h => by omega)) (fun _ _ h => h.imp_right (fun h => by omega)), (Turn.of_below (M := M) hb).trans (M' := M) ht (fun _ h => .inl h)⟩
theorem barrier_waits (D : St.Dk) : D.barrier.1.waits.length ≤ D.waits.length ∧ D.barrier.1.last.length = D.last.length := by
  unfold St.Dk.barrier
  split
  · exact ⟨Nat.le_refl _, rfl⟩
  · have hs : D.spend.1.waits = D.waits ∧ D.spend.1.last = D.last := by
      unfold St.Dk.spend
      split <;> exact ⟨rfl, rfl⟩
    split
    · rw [hs.1, hs.2]; exact ⟨Nat.le_refl _, rfl⟩
    · exact ⟨by simp, settle_len _ _ _ _⟩
theorem dmEnd_barrier {w : World} {g : Nat} {M R : Nat → Prop} {D : St.Dk} {e : Ending} {w' : World} (h1 : e = .returned (.int .i64 D.barrier.2)) (h2 : DkAt w' g D.barrier.1 (Gro M w.heap.size) (Gro R w.heap.size)) (h3 : Turn M w w') : DmEnd w g M R (St.barrierD D) e w' := by
  by_cases h0 : D.barrier.2 = 0
  · rw [barrierD_ok h0]
    exact ⟨by rw [h1, h0]; rfl, h2, h3⟩
  · rw [barrierD_no h0]
    exact ⟨h1, h2, h3⟩
end Go.Proofs.YtcpgbekcbaelpaaGreatDoor
/- Layer 5: a log is laid: the walk. -/
namespace Go.Proofs.YtcpgbekcbaelpaaGreatDoor
open Go.RowKit Go.Maps Wr
set_option linter.unusedVariables false
set_option linter.unusedSimpArgs false
abbrev placeO (g : Nat) (first count : Int) : Obj := .cells #[.pointer (some ⟨g, 0, none⟩), .int .i64 first, .int .i64 count] 169 (0, 0)
theorem place_cells {w : World} {b g : Nat} {first count : Int} (h : w.heap[b]? = some (placeO g first count)) : w.cell? ⟨b, 0, none⟩ = some (.pointer (some ⟨g, 0, none⟩)) ∧ w.cell? ⟨b, 1, none⟩ = some (.int .i64 first) ∧ w.cell? ⟨b, 2, none⟩ = some (.int .i64 count) :=
  ⟨by simp [World.cell?, h], by simp [World.cell?, h], by simp [World.cell?, h]⟩
set_option maxRecDepth 100000 in
set_option maxHeartbeats 2000000 in
theorem walRight_any {w : World} {g : Nat} {D : St.Dk} {M R : Nat → Prop} (h : DkAt w g D M R) (first count : Nat) (h3 : 3 ≤ count) (hn : first + count ≤ D.last.length) :
    Calls Tryz.prog 104 #[.agg #[.pointer (some ⟨g, 0, none⟩), .int .i64 (first : Int), .int .i64 (count : Int)]] w fun e w' => e = .returned (.bool true) ∧ Below w.heap.size w w' := by
  have HC : Hid (∀ n, Calls Tryz.prog 99 #[.pointer (some ⟨g, 0, none⟩)] ((w.alloc (placeO g first count)).drewN n) fun e w' => e = .returned (.int .i64 (D.last.length : Int)) ∧ ((w.alloc (placeO g first count)).drewN n) = w') := fun n =>
    dkCount_any (h.below (below_drewN ((Below.refl _ w).alloc (Nat.le_refl _) _) n))
  have hl := h.len
  have q1 : (3 : Int) ≤ (count : Int) := by omega
  have q2 : (count : Int) ≤ (D.last.length : Int) := by omega
  have q3 : (first : Int) ≤ (D.last.length : Int) - (count : Int) := by omega
  have q4 : (0 : Int) ≤ (first : Int) := by omega
  have q5 : IntKind.i64.wrap ((D.last.length : Int) - (count : Int)) = (D.last.length : Int) - (count : Int) := by rw [IntKind.wrap_i64]; omega
  obtain ⟨c0, c1, c2⟩ := place_cells (heap_alloc_new w (placeO g first count))
  generalize D.last.length = n at *
  clear h h3 hn hl
  go_enter Tryz.func104, Tryz.ntmps104
  go_wp2
  go_quiet ((go_at_call 99; exact wqs1 (HC.out _)))
  go_wp2
  go_ret
  exact ⟨rfl, below_drewN ((Below.refl _ w).alloc (Nat.le_refl _) _) _⟩
def FmtLoop (w W0 : World) (bp g first count : Nat) (D : St.Dk) (M R : Nat → Prop) (k : Nat) (s8 : Value) (wr : World) : Prop :=
  ∃ (j : Nat) (Dj : St.Dk), s8 = .int .i64 ((j + 1 : Nat) : Int) ∧ j + k = count - 1 ∧ St.writesD ((first : Int) + 1) (List.replicate j (St.zeros 512)) D = (.ok (), Dj) ∧ DkAt wr g Dj (Gro M W0.heap.size) (Gro R W0.heap.size) ∧ Turn M W0 wr
set_option maxRecDepth 100000 in
set_option maxHeartbeats 4000000 in
theorem walFormat_clip {w : World} {g : Nat} {D : St.Dk} {M R : Nat → Prop} (h : DkAt w g D M R) (hM : ∀ k, M k → k < w.heap.size) (hG : ¬ M 0) (hT : Half w) (first count : Nat) (h3 : 3 ≤ count) (hn : first + count ≤ D.last.length) (hw : D.waits.length ≤ 100000) :
    Calls Tryz.prog 66 #[.pointer (some ⟨g, 0, none⟩), .int .i64 (first : Int), .int .i64 (count : Int)] w (DmEnd w g M R (St.logFormat first count D)) := by
  have HH := Lib.hid h
  have HM := Lib.hid hM
  have HG := Lib.hid hG
  have HT := Lib.hid hT
  have HN := Lib.hid hn
  have HW := Lib.hid hw
  have hlen := h.len
  have HL := Lib.hid hlen
  have hd0 : DkAt (w.alloc (placeO g first count)) g D M R := h.below ((Below.refl _ w).alloc (Nat.le_refl _) _)
  have HD0 := Lib.hid hd0
  have hf : (first : Int) ≤ 65536 := by omega
  have hc : (count : Int) ≤ 65536 := by omega
  have hc3 : (3 : Int) ≤ (count : Int) := by omega
  have HR := Lib.hid (walRight_any hd0 first count h3 hn)
  obtain ⟨c0, c1, c2⟩ := place_cells (heap_alloc_new w (placeO g first count))
  clear h hM hG hT hn hw hd0 hlen
  go_enter Tryz.func66, Tryz.ntmps66
  go_wp2_with (go_at_call 104; refine HR.out.mono ?_; rintro e w1 ⟨rfl, hb1⟩; have HB1 := Lib.hid hb1; clear hb1)
  have hz1 : w.heap.size + 1 ≤ w1.heap.size := by have := HB1.out.size; simpa using this
  have hbx : w1.heap[w.heap.size]? = some (placeO g first count) := (HB1.out.block _ (by simp)).trans (heap_alloc_new w _)
  have hd1 : DkAt w1 g D M R := HD0.out.below HB1.out
  have HZ1 := Lib.hid hz1
  have HBX := Lib.hid hbx
  have hnb : ¬ M w.heap.size := fun hm => by have := HM.out _ hm; omega
  have HNB := Lib.hid hnb
  have HLS : Hid (FmtLoop w w1 w.heap.size g first count D M R (count - 1) (.int .i64 1) w1) := ⟨0, D, rfl, by omega, rfl, hd1.gro _, Turn.refl _ _⟩
  clear hz1 hbx hd1 hnb
  go_loopg [8] (count - 1) (fun gk s8 wr => FmtLoop w w1 w.heap.size g first count D M R gk s8 wr)
  case atStart => exact HLS.out
  case round =>
    clear HLS
    obtain ⟨j, Dj, rfl, hjk, hwj, hdj, htj⟩ := hrel
    have HWJ := Lib.hid hwj
    have HDJ := Lib.hid hdj
    have HTJ := Lib.hid htj
    have hbj : wr.heap[w.heap.size]? = some (placeO g first count) := (htj.block _ (by have := HZ1.out; omega) HNB.out).trans HBX.out
    obtain ⟨c0, c1, c2⟩ := place_cells hbj
    have HBJ := Lib.hid hbj
    have HJK := Lib.hid hjk
    obtain ⟨hww, hwl⟩ := writesD_waits _ _ _ _ hwj
    rw [List.length_replicate] at hww
    have HWW : Hid (Dj.waits.length ≤ 900000) := by show _ ≤ _; have := HW.out; omega
    clear hwj hdj htj hbj hww hwl
    by_cases hlt : j + 1 < count
    · have g1 : ((j + 1 : Nat) : Int) < (count : Int) := by omega
      have HC := Lib.hid (walWrite_any HDJ.out (first : Int) (count : Int) ((j + 1 : Nat) : Int) (by omega) (by omega) (.slice none 0 0) [] (BytesIn.row (nil_row wr 0)) (by simp) (by have := HWW.out; omega))
      rw [show St.pad [] = St.zeros 512 from rfl] at HC
      obtain ⟨x, hx⟩ : ∃ x, Dj.write ((first : Int) + ((j + 1 : Nat) : Int)) (St.zeros 512) = x := ⟨_, rfl⟩
      have HX := Lib.hid hx
      rw [hx] at HC
      obtain ⟨Dk, xe⟩ := x
      have hpos : (first : Int) + ((j + 1 : Nat) : Int) = (first : Int) + 1 + ((List.replicate j (St.zeros 512)).length : Int) := by rw [List.length_replicate]; push_cast; omega
      have HPOS := Lib.hid hpos
      clear hx hpos
      by_cases hz : xe = 0
      · subst hz
        go_wp2_with (go_at_call 96; refine HC.out.mono ?_; rintro e w2 ⟨he, hd2, ht2⟩; subst he; have HD2 := Lib.hid hd2; have HT2 := Lib.hid ht2; clear hd2 ht2)
        go_roundg (gk - 1)
        case measure => omega
        case rel =>
          have hs := HTJ.out.size
          refine ⟨j + 1, Dk, by go_num, by have := HJK.out; omega, ?_, HD2.out.mono (fun _ _ h => h.gro hs) (fun _ _ h => h.gro hs), HTJ.out.then HT2.out⟩
          rw [List.replicate_succ', writesD_snoc _ _ _ _ _ HWJ.out, ← HPOS.out, writeD_ok (by rw [HX.out]), HX.out]
      · have z1 : (xe != 0) = true := by simpa using hz
        have z2 : (xe == 0) = false := by simpa using hz
        have HZ := Lib.hid hz
        clear hz
        go_wp2_with (go_at_call 96; refine HC.out.mono ?_; rintro e w2 ⟨he, hd2, ht2⟩; subst he; have HD2 := Lib.hid hd2; have HT2 := Lib.hid ht2; clear hd2 ht2)
        go_ret
        have hjk := HJK.out
        have hr : St.logFormat first count D = (.error xe, Dk) := by
          unfold St.logFormat
          refine andThen_no ?_
          have e : List.replicate (count - 1) (St.zeros 512) = List.replicate j (St.zeros 512) ++ St.zeros 512 :: List.replicate (count - 2 - j) (St.zeros 512) := by
            rw [← List.replicate_succ, List.replicate_append_replicate]
            congr 1
            omega
          rw [e]
          refine writesD_stop _ _ _ _ _ _ _ _ HWJ.out ?_
          rw [← HPOS.out, writeD_no (by rw [HX.out]; exact HZ.out), HX.out]
        rw [hr]
        have hfin := dk_fin ((Below.refl _ w).alloc (Nat.le_refl _) _ |>.trans (HB1.out.mono (by simp))) HTJ.out HD2.out HT2.out
        exact ⟨rfl, hfin.1, hfin.2⟩
    · have hj : j = count - 1 := by have := HJK.out; omega
      have g1 : ¬ ((j + 1 : Nat) : Int) < (count : Int) := by omega
      have HJ := Lib.hid hj
      have hbar := Lib.hid (dkBarrier_any HDJ.out (by have := HWW.out; omega))
      obtain ⟨x, hx⟩ : ∃ x, Dj.barrier = x := ⟨_, rfl⟩
      have HX := Lib.hid hx
      rw [hx] at hbar
      obtain ⟨Dk, xe⟩ := x
      clear hx hj
      by_cases hz : xe = 0
      · subst hz
        go_wp2_with (go_at_call 97; refine hbar.out.mono ?_; rintro e w2 ⟨he, hd2, ht2⟩; subst he; have HD2 := Lib.hid hd2; have HT2 := Lib.hid ht2; clear hd2 ht2 hbar)
        have hs := HTJ.out.size
        have hd2 : DkAt w2 g Dk (Gro M w1.heap.size) (Gro R w1.heap.size) := HD2.out.mono (fun _ _ h => h.gro hs) (fun _ _ h => h.gro hs)
        have ht2 : Turn M w1 w2 := HTJ.out.then HT2.out
        have hb2 : w2.heap[w.heap.size]? = some (placeO g first count) := (ht2.block _ (by have := HZ1.out; omega) HNB.out).trans HBX.out
        have hT2 : Half w2 := ((HT.out.below ((Below.refl _ w).alloc (Nat.le_refl _) _)).below HB1.out).turn ht2 HG.out
        have hw2 : Dk.waits.length ≤ 900000 ∧ Dk.last.length = D.last.length := by
          have h1 := barrier_waits Dj
          rw [HX.out] at h1
          have h2 := HWW.out
          have h3 := writesD_waits _ _ _ _ HWJ.out
          exact ⟨Nat.le_trans h1.1 h2, h1.2.trans h3.2⟩
        have HB2 := Lib.hid hb2
        have HD2' := Lib.hid hd2
        have HT2' := Lib.hid ht2
        have HTT := Lib.hid hT2
        have HW2 := Lib.hid hw2
        have f0 : ∀ W, Below w2.heap.size w2 W → W.cell? ⟨w.heap.size, 0, none⟩ = some (.pointer (some ⟨g, 0, none⟩)) ∧ W.cell? ⟨w.heap.size, 1, none⟩ = some (.int .i64 first) ∧ W.cell? ⟨w.heap.size, 2, none⟩ = some (.int .i64 count) := fun W hW => place_cells ((hW.block _ (lt_of_block HB2.out)).trans HB2.out)
        have HF0 := Lib.hid f0
        obtain ⟨c0, c1, c2⟩ := HF0.out w2.drew (Below.refl _ _).drew
        obtain ⟨y, hy⟩ : ∃ y, Dk.write ((first : Int) + 0) (St.pad (St.logHead 1)) = y := ⟨_, rfl⟩
        have HY := Lib.hid hy
        obtain ⟨Dl, ye⟩ := y
        clear hs hd2 ht2 hb2 hT2 hw2 f0 hy
        have hr0 : St.logFormat first count D = if ye = 0 then St.barrierD Dl else (.error ye, Dl) := by
          have h1 := HWJ.out
          rw [HJ.out] at h1
          unfold St.logFormat
          rw [andThen_ok h1, andThen_ok (barrierD_ok (by rw [HX.out])), HX.out]
          have h3 : St.writeD (first : Int) (St.pad (St.logHead 1)) Dk = if ye = 0 then (.ok (), Dl) else (.error ye, Dl) := by
            unfold St.writeD
            have h4 := HY.out
            rw [Int.add_zero] at h4
            rw [h4]
          by_cases h0 : ye = 0
          · rw [if_pos h0] at h3 ⊢
            rw [andThen_ok h3]
          · rw [if_neg h0] at h3 ⊢
            rw [andThen_no h3]
        have HR0 := Lib.hid hr0
        clear hr0
        have hbw : Hid (Below w.heap.size w w1) := (Below.refl _ w).alloc (Nat.le_refl _) _ |>.trans (HB1.out.mono (by simp))
        go_region_law (first
          | (refine step_callw (by rfl) 109 #[.int .i64 1] ?_ (walHead_any 1 (by omega) (by omega) _ (HTT.out.below (Below.refl _ _).drew)) ?_; go_simp; rintro e w3 ⟨v3, rfl, hr3, hb3⟩; obtain ⟨a3, p3, rfl, _⟩ := hr3.form; refine ⟨.slice a3 (St.logHead 1).length p3, rfl, ?_⟩; have HR3 := Lib.hid hr3; have HB3 : Hid (Below w2.heap.size w2 w3) := (Below.refl _ _).drew.trans hb3; clear hr3 hb3; obtain ⟨e0, e1, e2⟩ := HF0.out w3 HB3.out)
          | (refine step_callw (by rfl) 96 #[.agg #[.pointer (some ⟨g, 0, none⟩), .int .i64 first, .int .i64 count], .int .i64 0, .slice a3 (St.logHead 1).length p3] ?_ (walWrite_any (HD2'.out.below HB3.out) (first : Int) (count : Int) 0 (by omega) (by omega) _ (St.logHead 1) (BytesIn.row HR3.out) (St.logHead_len (by omega) (by decide)) (by have := HW2.out.1; omega)) ?_; go_simp; rw [HY.out]; rintro e w4 ⟨he, hd4, ht4⟩; subst he; refine ⟨.int .i64 ye, rfl, ?_⟩; have HD4 := Lib.hid hd4; have HT4 := Lib.hid ht4; clear hd4 ht4))
        all_goals
          have hz3 := HB3.out.size
          have hd4 : DkAt w4 g Dl (Gro M w1.heap.size) (Gro R w1.heap.size) := HD4.out.mono (fun _ _ h => h.gro (Nat.le_trans HT2'.out.size hz3)) (fun _ _ h => h.gro (Nat.le_trans HT2'.out.size hz3))
          have ht4 : Turn M w1 w4 := (HT2'.out.thenBelow HB3.out).then HT4.out
          have HD5 := Lib.hid hd4
          have HT5 := Lib.hid ht4
          clear hz3 hd4 ht4
          by_cases hy0 : ye = 0
          · have hr1 := HR0.out
            rw [if_pos hy0] at hr1
            have HR1 := Lib.hid hr1
            subst hy0
            have hwl : Dl.waits.length ≤ 900001 := by
              have := write_waits Dk ((first : Int) + 0) (St.pad (St.logHead 1))
              rw [HY.out] at this
              have := HW2.out.1
              dsimp only at *
              omega
            have HWLL := Lib.hid hwl
            clear hr1 hwl
            go_wp2_with (go_at_call 97; refine (dkBarrier_any HD5.out (by have := HWLL.out; omega)).mono ?_; rintro e w5 ⟨he, hd5, ht5⟩; subst he; have HD6 := Lib.hid hd5; have HT6 := Lib.hid ht5; clear hd5 ht5)
            go_ret
            rw [HR1.out]
            have hfin := dk_fin hbw.out HT5.out HD6.out HT6.out
            exact dmEnd_barrier rfl hfin.1 hfin.2
          · have hr1 := HR0.out
            rw [if_neg hy0] at hr1
            have HR1 := Lib.hid hr1
            have z3 : (ye != 0) = true := by simpa using hy0
            have z4 : (ye == 0) = false := by simpa using hy0
            clear hr1 hy0
            go_wp2
            go_ret
            rw [HR1.out]
            have hfin := dk_fin0 hbw.out HT5.out HD5.out
            exact ⟨rfl, hfin.1, hfin.2⟩
      · have z1 : (xe != 0) = true := by simpa using hz
        have z2 : (xe == 0) = false := by simpa using hz
        have HZ := Lib.hid hz
        clear hz
        go_wp2_with (go_at_call 97; refine hbar.out.mono ?_; rintro e w2 ⟨he, hd2, ht2⟩; subst he; have HD2 := Lib.hid hd2; have HT2 := Lib.hid ht2; clear hd2 ht2 hbar)
        go_ret
        have hr : St.logFormat first count D = (.error xe, Dk) := by
          unfold St.logFormat
          have h1 := HWJ.out
          rw [HJ.out] at h1
          rw [andThen_ok h1]
          exact andThen_no (by rw [barrierD_no (by rw [HX.out]; exact HZ.out), HX.out])
        rw [hr]
        have hfin := dk_fin ((Below.refl _ w).alloc (Nat.le_refl _) _ |>.trans (HB1.out.mono (by simp))) HTJ.out HD2.out HT2.out
        exact ⟨rfl, hfin.1, hfin.2⟩
theorem walFormat_any {w : World} {g : Nat} {D : St.Dk} {M R : Nat → Prop} (h : DkAt w g D M R) (hG : ¬ M 0) (hT : Half w) (first count : Nat) (h3 : 3 ≤ count) (hn : first + count ≤ D.last.length) (hw : D.waits.length ≤ 100000) :
    Calls Tryz.prog 66 #[.pointer (some ⟨g, 0, none⟩), .int .i64 (first : Int), .int .i64 (count : Int)] w (DmEnd w g M R (St.logFormat first count D)) :=
  (walFormat_clip h.clip (fun _ h => h.2) (fun h => hG h.1) hT first count h3 hn hw).mono fun _ _ h => h.unclip
end Go.Proofs.YtcpgbekcbaelpaaGreatDoor
/- Layer 5: a log is emptied. -/
namespace Go.Proofs.YtcpgbekcbaelpaaGreatDoor
open Go.RowKit Go.Maps Wr
set_option linter.unusedVariables false
set_option linter.unusedSimpArgs false
abbrev logO (g : Nat) (l : St.Lg) : Obj := .cells #[.pointer (some ⟨g, 0, none⟩), .int .i64 (l.first : Int), .int .i64 (l.count : Int), .int .i64 l.age, .int .i64 l.next, .int .i64 (l.at' : Int)] 171 (0, 0)
def lgAfter (l : St.Lg) : Except Int St.Lg → St.Lg
  | .ok l' => l'
  | .error _ => l
def LgEnd (w : World) (g p : Nat) (M R : Nat → Prop) (l : St.Lg) (r : Except Int St.Lg × St.Dk) (e : Ending) (w' : World) : Prop :=
  e = .returned (.int .i64 (errOf r.1)) ∧ DkAt w' g r.2 (Gro M w.heap.size) (Gro R w.heap.size) ∧ w'.heap[p]? = some (logO g (lgAfter l r.1)) ∧ Turn (fun k => M k ∨ k = p) w w'
theorem LgEnd.unclip {w : World} {g p : Nat} {M R : Nat → Prop} {l : St.Lg} {r : Except Int St.Lg × St.Dk} {e : Ending} {w' : World} (h : LgEnd w g p (Clip M w) (Clip R w) l r e w') : LgEnd w g p M R l r e w' :=
  ⟨h.1, h.2.1.mono (fun _ _ h => h.imp_left And.left) (fun _ _ h => h.imp_left And.left), h.2.2.1, h.2.2.2.mono (fun _ h => h.imp_left And.left)⟩
set_option maxRecDepth 100000 in
set_option maxHeartbeats 4000000 in
theorem walTruncate_clip {w : World} {g p : Nat} {D : St.Dk} {M R : Nat → Prop} {l : St.Lg} (h : DkAt w g D M R) (hp : w.heap[p]? = some (logO g l)) (hM : ∀ k, M k → k < w.heap.size) (hMp : ¬ M p) (hRp : ¬ R p) (hG : ¬ M 0) (hT : Half w) (hf : l.first ≤ 100000) (ha : 0 ≤ l.age ∧ l.age + 1 ≤ St.mostAge) (hw : D.waits.length ≤ 900000) :
    Calls Tryz.prog 53 #[.pointer (some ⟨p, 0, none⟩)] w (LgEnd w g p M R l (l.truncate D)) := by
  have hma : St.mostAge = 4611686018427387904 := rfl
  obtain ⟨first, count, age, next, at'⟩ := l
  dsimp only at hf ha hp
  have HH := Lib.hid h
  have HP := Lib.hid hp
  have HMP := Lib.hid hMp
  have HRP := Lib.hid hRp
  have HG := Lib.hid hG
  have HT := Lib.hid hT
  have HW := Lib.hid hw
  have hfi : (first : Int) ≤ 100000 := by omega
  have ha0 : 0 ≤ age := ha.1
  have ha1 : age + 1 ≤ 4611686018427387904 := by omega
  obtain ⟨an, han⟩ : ∃ n : Nat, (n : Int) = age + 1 := ⟨(age + 1).toNat, by omega⟩
  have HSL : Hid (∀ W, Calls Tryz.prog 108 #[.int .i64 (age + 1)] W fun e w' => e = .returned (.int .i64 (1 - (age + 1) % 2)) ∧ W = w') := fun W => by
    have := walSlot_any an (by omega) W
    rw [han] at this
    exact this
  have HHD : Hid (∀ W, Half W → Calls Tryz.prog 109 #[.int .i64 (age + 1)] W (RowEnd W W.heap.size (St.logHead (age + 1)))) := fun W hW => walHead_any (age + 1) (by omega) (by omega) W hW
  have HHL : Hid ((St.logHead (age + 1)).length ≤ 512) := St.logHead_len (by omega) (by omega)
  have hwr : IntKind.i64.wrap (age + 1) = age + 1 := by rw [IntKind.wrap_i64]; omega
  obtain ⟨y, hy⟩ : ∃ y, D.write ((first : Int) + (1 - (age + 1) % 2)) (St.pad (St.logHead (age + 1))) = y := ⟨_, rfl⟩
  have HY := Lib.hid hy
  obtain ⟨Dl, ye⟩ := y
  have f0 : ∀ W, Below w.heap.size w W → W.cell? ⟨p, 0, none⟩ = some (.pointer (some ⟨g, 0, none⟩)) ∧ W.cell? ⟨p, 1, none⟩ = some (.int .i64 first) ∧ W.cell? ⟨p, 2, none⟩ = some (.int .i64 count) ∧ W.cell? ⟨p, 3, none⟩ = some (.int .i64 age) ∧ W.cell? ⟨p, 4, none⟩ = some (.int .i64 next) ∧ W.cell? ⟨p, 5, none⟩ = some (.int .i64 at') ∧ (∀ j, W.frozen? ⟨p, j, none⟩ = false) := fun W hW => cells6 ((hW.block _ (lt_of_block HP.out)).trans HP.out)
  have HF0 := Lib.hid f0
  have hsl2 : 0 ≤ 1 - (age + 1) % 2 ∧ 1 - (age + 1) % 2 ≤ 1000000 := by omega
  have HS2 := Lib.hid hsl2
  clear h hp hMp hRp hG hT hw hf ha hy f0 hma han hsl2
  go_enter Tryz.func53, Tryz.ntmps53
  go_wp2
  go_region_held3 (fun W => W.cell? ⟨p, 0, none⟩ = some (.pointer (some ⟨g, 0, none⟩)) ∧ W.cell? ⟨p, 1, none⟩ = some (.int .i64 first) ∧ W.cell? ⟨p, 2, none⟩ = some (.int .i64 count) ∧ W.cell? ⟨p, 3, none⟩ = some (.int .i64 age))
    (first | exact ⟨(HF0.out _ (Below.refl _ _).drew).1, (HF0.out _ (Below.refl _ _).drew).2.1, (HF0.out _ (Below.refl _ _).drew).2.2.1, (HF0.out _ (Below.refl _ _).drew).2.2.2.1⟩ | exact ⟨(HF0.out _ HB3.out).1, (HF0.out _ HB3.out).2.1, (HF0.out _ HB3.out).2.2.1, (HF0.out _ HB3.out).2.2.2.1⟩ | exact ⟨(cells6 HB4.out).1, (cells6 HB4.out).2.1, (cells6 HB4.out).2.2.1, (cells6 HB4.out).2.2.2.1⟩)
    (first
      | (go_at_call 108; refine (HSL.out _).mono ?_; rintro e w1 ⟨rfl, rfl⟩)
      | (go_at_call 109; refine (HHD.out _ (HT.out.below (Below.refl _ _).drew)).mono ?_; rintro e w3 ⟨v3, rfl, hr3, hb3⟩; obtain ⟨a3, p3, rfl, _⟩ := hr3.form; have HR3 := Lib.hid hr3; have HB3 : Hid (Below w.heap.size w w3) := (Below.refl _ _).drew.trans hb3; clear hr3 hb3)
      | (go_at_call 96; refine (walWrite_any (HH.out.below HB3.out) (first : Int) (count : Int) (1 - (age + 1) % 2) (by omega) HS2.out _ (St.logHead (age + 1)) (BytesIn.row HR3.out) HHL.out (by have := HW.out; omega)).mono ?_; rw [HY.out]; rintro e w4 ⟨he, hd4, ht4⟩; subst he; have hb4 := (ht4.block p (Nat.lt_of_lt_of_le (lt_of_block HP.out) HB3.out.size) HMP.out).trans ((HB3.out.block p (lt_of_block HP.out)).trans HP.out); have HB4 := Lib.hid hb4; have HD4 := Lib.hid hd4; have HT4 := Lib.hid ht4; clear hd4 ht4 hb4))
  have hz3 := HB3.out.size
  have hd4 : DkAt w4 g Dl (Gro M w.heap.size) (Gro R w.heap.size) := HD4.out.mono (fun _ _ h => h.imp_right (fun h => by omega)) (fun _ _ h => h.imp_right (fun h => by omega))
  have ht4 : Turn M w w4 := (Turn.of_below (M := M) HB3.out).trans (M' := M) HT4.out (fun _ h => .inl h)
  have HD5 := Lib.hid hd4
  have HT5 := Lib.hid ht4
  have HR0 : Hid (∀ l : St.Lg, l = ⟨first, count, age, next, at'⟩ → l.truncate D = if ye = 0 then (St.barrierD.andThen fun _ => St.DM.ret (⟨first, count, age + 1, 0, 2⟩ : St.Lg)) Dl else (.error ye, Dl)) := by
    intro l hl
    subst hl
    unfold St.Lg.truncate
    dsimp only
    have h3 : St.writeD ((first : Int) + (1 - (age + 1) % 2)) (St.pad (St.logHead (age + 1))) D = if ye = 0 then (.ok (), Dl) else (.error ye, Dl) := by
      unfold St.writeD
      rw [HY.out]
    by_cases h0 : ye = 0
    · rw [if_pos h0] at h3 ⊢
      rw [andThen_ok h3]
    · rw [if_neg h0] at h3 ⊢
      rw [andThen_no h3]
  clear hz3 hd4 ht4
  obtain ⟨c0, c1, c2, c3, c4, c5, cf⟩ := cells6 HB4.out
  by_cases hy0 : ye = 0
  · have hr1 := HR0.out _ rfl
    rw [if_pos hy0] at hr1
    have HR1 := Lib.hid hr1
    subst hy0
    have hwl : Dl.waits.length ≤ 900001 := by
      have := write_waits D ((first : Int) + (1 - (age + 1) % 2)) (St.pad (St.logHead (age + 1)))
      rw [HY.out] at this
      have := HW.out
      dsimp only at *
      omega
    have HBA := Lib.hid (dkBarrier_any HD5.out (by omega))
    obtain ⟨z, hz⟩ : ∃ z, Dl.barrier = z := ⟨_, rfl⟩
    have HZ := Lib.hid hz
    rw [hz] at HBA
    obtain ⟨Dm, ze⟩ := z
    clear hr1 hwl hz
    by_cases hz0 : ze = 0
    · subst hz0
      go_wp2_with (go_at_call 97; refine HBA.out.mono ?_; rintro e w5 ⟨he, hd5, ht5⟩; subst he; have HD6 := Lib.hid hd5; have HT6 := Lib.hid ht5; have hb5 := (ht5.block p (lt_of_block HB4.out) (fun h => by rcases h with h | h; exact HMP.out h; have := lt_of_block HP.out; omega)).trans HB4.out; clear hd5 ht5 HBA c0 c1 c2 c3 c4 c5 cf; obtain ⟨c0, c1, c2, c3, c4, c5, cf⟩ := cells6 hb5; have HB5 := Lib.hid hb5; clear hb5)
      go_ret
      rw [HR1.out, andThen_ok (barrierD_ok (by rw [HZ.out])), HZ.out]
      have hfin := dk_fin (Below.refl _ w) HT5.out HD6.out HT6.out
      have hpl := lt_of_block HP.out
      have hc : Chg [p] w5 (((w5.setCell ⟨p, 3, none⟩ (.int .i64 (age + 1))).setCell ⟨p, 4, none⟩ (.int .i64 0)).setCell ⟨p, 5, none⟩ (.int .i64 2)) := ((chg_set _ _ _ _).then1 (chg_set _ _ _ _)).then1 (chg_set _ _ _ _)
      have tp : Turn (fun k => k = p) w5 (((w5.setCell ⟨p, 3, none⟩ (.int .i64 (age + 1))).setCell ⟨p, 4, none⟩ (.int .i64 0)).setCell ⟨p, 5, none⟩ (.int .i64 2)) := Turn.of_chg hc (fun k hk => .inl (by simpa using hk))
      have hb := (dk_set (o := 5) (u := .int .i64 2) (dk_set (o := 4) (u := .int .i64 0) (dk_set (o := 3) (u := .int .i64 (age + 1)) HB5.out))).trans rfl
      refine ⟨rfl, hfin.1.turn tp (fun k hk e => ?_) (fun k hk e => ?_), hb, (hfin.2.mono (fun _ h => .inl h)).trans tp (fun k hk => .inl (.inr hk))⟩
      · subst e
        rcases hk with hk | hk
        · exact HMP.out hk
        · omega
      · subst e
        rcases hk with hk | hk
        · exact HRP.out hk
        · omega
    · have z3 : (ze != 0) = true := by simpa using hz0
      have z4 : (ze == 0) = false := by simpa using hz0
      have HZ0 := Lib.hid hz0
      clear hz0
      go_wp2_with (go_at_call 97; refine HBA.out.mono ?_; rintro e w5 ⟨he, hd5, ht5⟩; subst he; have HD6 := Lib.hid hd5; have HT6 := Lib.hid ht5; have hb5 := (ht5.block p (lt_of_block HB4.out) (fun h => by rcases h with h | h; exact HMP.out h; have := lt_of_block HP.out; omega)).trans HB4.out; clear hd5 ht5 HBA; have HB5 := Lib.hid hb5; clear hb5)
      go_ret
      rw [HR1.out, andThen_no (barrierD_no (by rw [HZ.out]; exact HZ0.out)), HZ.out]
      have hfin := dk_fin (Below.refl _ w) HT5.out HD6.out HT6.out
      exact ⟨rfl, hfin.1, HB5.out, hfin.2.mono (fun _ h => .inl h)⟩
  · have hr1 := HR0.out _ rfl
    rw [if_neg hy0] at hr1
    have HR1 := Lib.hid hr1
    have z3 : (ye != 0) = true := by simpa using hy0
    have z4 : (ye == 0) = false := by simpa using hy0
    clear hr1 hy0
    go_wp2
    go_ret
    rw [HR1.out]
    exact ⟨rfl, HD5.out, HB4.out, HT5.out.mono (fun _ h => .inl h)⟩
theorem walTruncate_any {w : World} {g p : Nat} {D : St.Dk} {M R : Nat → Prop} {l : St.Lg} (h : DkAt w g D M R) (hp : w.heap[p]? = some (logO g l)) (hMp : ¬ M p) (hRp : ¬ R p) (hG : ¬ M 0) (hT : Half w) (hf : l.first ≤ 100000) (ha : 0 ≤ l.age ∧ l.age + 1 ≤ St.mostAge) (hw : D.waits.length ≤ 900000) :
    Calls Tryz.prog 53 #[.pointer (some ⟨p, 0, none⟩)] w (LgEnd w g p M R l (l.truncate D)) :=
  (walTruncate_clip h.clip hp (fun _ h => h.2) (fun h => hMp h.1) (fun h => hRp h.1) (fun h => hG h.1) hT hf ha hw).mono fun _ _ h => h.unclip
end Go.Proofs.YtcpgbekcbaelpaaGreatDoor
