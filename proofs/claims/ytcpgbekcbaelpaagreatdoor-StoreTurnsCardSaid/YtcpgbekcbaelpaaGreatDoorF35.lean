/- Texts of the proof, in build order: St9, St10, StCh. -/
import Derived.Test.YtcpgbekcbaelpaaGreatDoorF34
import Derived.Test.YtcpgbekcbaelpaaGreatDoorF28
set_option linter.unusedVariables false
set_option linter.unusedSimpArgs false
set_option linter.unusedSectionVars false
/- Layer 7: objects and a head are laid down. -/
namespace Go.Proofs.YtcpgbekcbaelpaaGreatDoor
open Go.RowKit Go.Shelf Go.Maps Wr
set_option linter.unusedVariables false
set_option linter.unusedSimpArgs false
attribute [local go_sem] Oper.semAt_some
def LaI (W3 : World) (kb g gm n0 pos : Nat) (b : List UInt8) (D : St.Dk) (M R : Nat → Prop) (pre : List Nat) (W : World) : Prop :=
  ∃ Dk, St.writesD (pos : Int) (pre.map fun i => (b.drop (i * 512)).take 512) D = (.ok (), Dk) ∧ DkAtM W g gm Dk (Gro M n0) (Gro R n0) ∧ Turn (fun k => M k ∨ k = kb) W3 W ∧ W.heap[kb]? = some (.cells #[.int .i64 ((pos + pre.length : Nat) : Int)] 3 (0, 0))
theorem LaI.own {W3 A B : World} {kb g gm n0 pos : Nat} {b : List UInt8} {D : St.Dk} {M R : Nat → Prop} {pre : List Nat} {row : Option Nat} (h : LaI W3 kb g gm n0 pos b D M R pre A) (hk : kb < n0) (hgm : gm < n0) (hW : W3.heap.size = n0) (hg : A.grownBy B row) (hr : ∀ r, row = some r → n0 ≤ r ∧ ∃ o : Obj, A.heap[r]? = some o ∧ o.isCells = false) : LaI W3 kb g gm n0 pos b D M R pre B := by
  obtain ⟨Dk, h1, h2, h3, h4⟩ := h
  have hc : Chg row.toList A B := (Chg.refl _ A).grown hg (fun k hk => .inl (by simp [hk]))
  have ht : Turn (fun k => row = some k) A B := Turn.of_chg hc (fun k hk => .inl (by simpa using hk))
  have hno : ∀ k, row = some k → ¬ IsCells A k := fun k e ⟨c, t, fz, hh⟩ => by
    obtain ⟨_, o, ho, hcl⟩ := hr k e
    rw [hh] at ho
    cases ho
    cases hcl
  refine ⟨Dk, h1, (h2.cells.turn ht (fun k hk e => ?_) (fun k hk e => hno k e hk.2)).mono (fun k _ hk => hk.1) (fun k _ hk => hk.1), h3.trans (M' := fun k => row = some k) ht (fun k hk => .inr (by rw [hW]; exact (hr k hk).1)), ?_⟩
  · rcases hk.2 with hx | hx
    · have := (hr k e).1
      omega
    · exact hno k e hx
  · refine (ht.block kb (lt_of_block h4) (fun e => ?_)).trans h4
    have := (hr kb e).1
    omega
def LaX (W3 : World) (kb eb g gm n0 pos : Nat) (b : List UInt8) (D : St.Dk) (M R : Nat → Prop) (c : Code) (pre : List Nat) (W : World) : Prop :=
  c = .ret ∧ ∃ pre0 x Dp Dk xe, pre = pre0 ++ [x] ∧ xe ≠ 0 ∧ St.writesD (pos : Int) (pre0.map fun i => (b.drop (i * 512)).take 512) D = (.ok (), Dp) ∧ St.writeD ((pos + pre0.length : Nat) : Int) ((b.drop (x * 512)).take 512) Dp = (.error xe, Dk) ∧ DkAtM W g gm Dk (Gro M n0) (Gro R n0) ∧ Turn (fun k => M k ∨ k = kb ∨ k = eb) W3 W ∧ W.heap[eb]? = some (.cells #[.int .i64 xe] 29 (0, 0))
theorem LaX.own {W3 A B : World} {kb eb g gm n0 pos : Nat} {b : List UInt8} {D : St.Dk} {M R : Nat → Prop} {c : Code} {pre : List Nat} {row : Option Nat} (h : LaX W3 kb eb g gm n0 pos b D M R c pre A) (hk : eb < n0) (hgm : gm < n0) (hW : W3.heap.size = n0) (hg : A.grownBy B row) (hr : ∀ r, row = some r → n0 ≤ r ∧ ∃ o : Obj, A.heap[r]? = some o ∧ o.isCells = false) : LaX W3 kb eb g gm n0 pos b D M R c pre B := by
  obtain ⟨hc0, pre0, x, Dp, Dk, xe, h1, h2, h3, h4, h5, h6, h7⟩ := h
  have hc : Chg row.toList A B := (Chg.refl _ A).grown hg (fun k hk => .inl (by simp [hk]))
  have ht : Turn (fun k => row = some k) A B := Turn.of_chg hc (fun k hk => .inl (by simpa using hk))
  have hno : ∀ k, row = some k → ¬ IsCells A k := fun k e ⟨c, t, fz, hh⟩ => by
    obtain ⟨_, o, ho, hcl⟩ := hr k e
    rw [hh] at ho
    cases ho
    cases hcl
  refine ⟨hc0, pre0, x, Dp, Dk, xe, h1, h2, h3, h4, (h5.cells.turn ht (fun k hk e => ?_) (fun k hk e => hno k e hk.2)).mono (fun k _ hk => hk.1) (fun k _ hk => hk.1), h6.trans (M' := fun k => row = some k) ht (fun k hk => .inr (by rw [hW]; exact (hr k hk).1)), ?_⟩
  · rcases hk.2 with hx | hx
    · have := (hr k e).1
      omega
    · exact hno k e hx
  · refine (ht.block eb (lt_of_block h7) (fun e => ?_)).trans h7
    have := (hr eb e).1
    omega
def LaidEnd (w : World) (b g : Nat) (mv0 : Value) (nx0 : Int) (hd0 : St.Hd2) (lv : Value) (fr ea : Int) (mb : Nat) (next : Int) (M R : Nat → Prop) (r : Except Int St.Hd2 × St.Dk) (e : Ending) (w' : World) : Prop :=
  e = .returned (.int .i64 (errOf r.1)) ∧ DkAt w' g r.2 (Gro M w.heap.size) (Gro R w.heap.size) ∧ Turn (fun k => M k ∨ k = b) w w' ∧ w'.heap[b]? = some (match r.1 with
    | .ok h => storeO (.map (some mb)) next h g lv fr ea
    | .error _ => storeO mv0 nx0 hd0 g lv fr ea)
theorem laid_spec {count each : Nat} {o : St.Objs} {next : Int} {h h' : St.Hd2} {D : St.Dk} {img fb : List UInt8} {pos : Int} (e1 : St.image o next = img) (e2 : St.full img = fb) (e3 : ((2 + count : Nat) : Int) + h.half * (each : Int) = pos) (e4 : h' = ⟨h.turn, h.half, (img.length : Int), ((St.crc img : Nat) : Int), h.age⟩) :
    St.laid count each o next h D = ((St.writesD pos (St.chunks 512 fb)).andThen fun _ => St.barrierD.andThen fun _ => (St.writeD (1 - h'.turn % 2) (St.full h'.bytes)).andThen fun _ => St.barrierD.andThen fun _ => St.DM.ret h') D := by
  subst e4
  unfold St.laid
  rw [e1, e2, e3]
theorem putObj_turn (X : World) (Dd : Nat) (o : Obj) : Turn (fun k => k = Dd) X (X.putObj Dd o) := Turn.of_chg ((Chg.refl [Dd] X).grown (grownBy_putObj' X Dd _) (fun k hk => by cases hk; exact .inl (by simp))) (fun k hk => .inl (by simpa using hk))
theorem laid_end {w X : World} {b g Dd mb : Nat} {mv0 lv : Value} {nx0 next : Int} {hd0 : St.Hd2} {fr ea : Int} {M R M1 R1 : Nat → Prop} {r : Except Int St.Hd2 × St.Dk} (ht : Turn (fun k => M k ∨ k = b) w X) (hd : DkAt X g r.2 M1 R1) (hm1 : ∀ k, M1 k → (M k ∨ w.heap.size ≤ k) ∧ k ≠ Dd) (hr1 : ∀ k, R1 k → (R k ∨ w.heap.size ≤ k) ∧ k ≠ Dd)
    (hb : X.heap[b]? = some (match r.1 with | .ok h => storeO (.map (some mb)) next h g lv fr ea | .error _ => storeO mv0 nx0 hd0 g lv fr ea)) (hbD : b ≠ Dd) (hDd : w.heap.size ≤ Dd) : LaidEnd w b g mv0 nx0 hd0 lv fr ea mb next M R r (.returned (.int .i64 (errOf r.1))) (X.putObj Dd (.deferred none)) := by
  have t := putObj_turn X Dd (.deferred none)
  exact ⟨rfl, (hd.turn t (fun k hk e => (hm1 k hk).2 e) (fun k hk e => (hr1 k hk).2 e)).mono (fun k _ hk => (hm1 k hk).1) (fun k _ hk => (hr1 k hk).1), ht.trans t (fun k hk => .inr (by omega)), (t.block b (lt_of_block hb) hbD).trans hb⟩
theorem laid_out {w X : World} {b : Nat} {M M2 : Nat → Prop} {W6 : World} (h6 : Below w.heap.size w W6) (ht : Turn M2 W6 X) (h2 : ∀ k, M2 k → M k ∨ k = b ∨ w.heap.size ≤ k) : Turn (fun k => M k ∨ k = b) w X := (Turn.of_below (M := fun k => M k ∨ k = b) h6).trans ht (fun k hk => by
  rcases h2 k hk with h | h | h
  · exact .inl (.inl h)
  · exact .inl (.inr h)
  · exact .inr h)
theorem chunks_cut {fb : List UInt8} {xs : List Nat} {x : Nat} (h : xs ++ [x] = List.range (xs.length + 1)) (hx : x * 512 < fb.length) : ∃ rest, St.chunks 512 fb = (xs.map fun i => (fb.drop (i * 512)).take 512) ++ (fb.drop (x * 512)).take 512 :: rest := by
  have hxl : x = xs.length := by
    have h1 := congrArg (fun l => l[xs.length]?) h
    simp at h1
    exact h1
  have hxs : xs = List.range xs.length := by
    rw [List.range_succ] at h
    exact (List.append_inj' h rfl).1
  have hlt : x < (fb.length + 512 - 1) / 512 := by omega
  obtain ⟨k, hk⟩ : ∃ k, (fb.length + 512 - 1) / 512 = xs.length + 1 + k := ⟨(fb.length + 512 - 1) / 512 - (xs.length + 1), by omega⟩
  rw [chunks_range (by omega) fb.length fb (Nat.le_refl _), hk, List.range_add, List.map_append, ← h, List.map_append, List.append_assoc]
  exact ⟨_, rfl⟩
set_option maxRecDepth 100000 in
set_option maxHeartbeats 16000000 in
theorem laid_any {w : World} {b g mb : Nat} {D : St.Dk} {M R A : Nat → Prop} {mv0 lv : Value} {nx0 next : Int} {hd0 h : St.Hd2} {count each : Nat} {ov : OV} (hd : DkAt w g D M R) (hb : w.heap[b]? = some (storeO mv0 nx0 hd0 g lv ((2 + count : Nat) : Int) (each : Int))) (hM : ∀ k, M k → k < w.heap.size) (hR : ∀ k, R k → k < w.heap.size) (hMb : ¬ M b) (hRb : ¬ R b) (hG : ¬ M 0) (hT : Half w) (hgb : 0 ≠ b)
    (hm : OMap w mb ov) (hv : OvIn w A ov) (hn : 0 ≤ next ∧ next ≤ 4611686018427387904) (hk : ∀ x ∈ ov, 0 ≤ x.1 ∧ x.1 ≤ 4611686018427387904) (hl : (St.image (ovO ov) next).length ≤ 1000000) (hh : (0 ≤ h.turn ∧ h.turn ≤ 4611686018427387904) ∧ (0 ≤ h.half ∧ h.half ≤ 1) ∧ 0 ≤ h.age ∧ h.age ≤ 4611686018427387904) (hc : count ≤ 1000) (he : each ≤ 1000) (hw : D.waits.length ≤ 100000) :
    Calls Tryz.prog 68 #[.pointer (some ⟨b, 0, none⟩), .agg #[.map (some mb), .int .i64 next], hdV h] w (LaidEnd w b g mv0 nx0 hd0 lv ((2 + count : Nat) : Int) (each : Int) mb next M R (St.laid count each (ovO ov) next h D)) := by
  obtain ⟨img, himg⟩ : ∃ img, St.image (ovO ov) next = img := ⟨_, rfl⟩
  obtain ⟨fr, hfr⟩ : ∃ fr : Nat, 2 + count = fr := ⟨_, rfl⟩
  have hb3 : Below w.heap.size w ((((w.alloc (.cells #[.pointer (some ⟨b, 0, none⟩)] 24)).alloc (objO mb next)).alloc (hdO h)).alloc (.cells #[.int .i64 0] 29)) := ((((Below.refl _ w).alloc (Nat.le_refl _) _).alloc (by simp) _).alloc (by simp; omega) _).alloc (by simp; omega) _
  obtain ⟨B, hB⟩ : ∃ B, w.heap.size = B := ⟨_, rfl⟩
  have hs0 : (((w.alloc (.cells #[.pointer (some ⟨b, 0, none⟩)] 24)).alloc (objO mb next)).alloc (hdO h)).heap.size = B + 3 := by simp [hB]
  have hs1 : ((w.alloc (.cells #[.pointer (some ⟨b, 0, none⟩)] 24)).alloc (objO mb next)).heap.size = B + 2 := by simp [hB]
  have hs2 : (w.alloc (.cells #[.pointer (some ⟨b, 0, none⟩)] 24)).heap.size = B + 1 := by simp [hB]
  have x0 : ((((w.alloc (.cells #[.pointer (some ⟨b, 0, none⟩)] 24)).alloc (objO mb next)).alloc (hdO h)).alloc (.cells #[.int .i64 0] 29)).heap[B]? = some (.cells #[.pointer (some ⟨b, 0, none⟩)] 24 (0, 0)) := blk_alloc (blk_alloc (blk_alloc (hB ▸ heap_alloc_new w _) _) _) _
  have x1 : ((((w.alloc (.cells #[.pointer (some ⟨b, 0, none⟩)] 24)).alloc (objO mb next)).alloc (hdO h)).alloc (.cells #[.int .i64 0] 29)).heap[B + 1]? = some (objO mb next) := blk_alloc (blk_alloc (hs2 ▸ heap_alloc_new _ _) _) _
  have x2 : ((((w.alloc (.cells #[.pointer (some ⟨b, 0, none⟩)] 24)).alloc (objO mb next)).alloc (hdO h)).alloc (.cells #[.int .i64 0] 29)).heap[B + 2]? = some (hdO h) := blk_alloc (hs1 ▸ heap_alloc_new _ _) _
  have x3 : ((((w.alloc (.cells #[.pointer (some ⟨b, 0, none⟩)] 24)).alloc (objO mb next)).alloc (hdO h)).alloc (.cells #[.int .i64 0] 29)).heap[B + 3]? = some (.cells #[.int .i64 0] 29 (0, 0)) := hs0 ▸ heap_alloc_new _ _
  have hz1 : ((((w.alloc (.cells #[.pointer (some ⟨b, 0, none⟩)] 24)).alloc (objO mb next)).alloc (hdO h)).alloc (.cells #[.int .i64 0] 29)).heap.size = B + 4 := by simp [hB]
  clear hs0 hs1 hs2
  refine (callsIn_wide (n := 6)).1 ?_
  refine callsIn_of_wp_marks Tryz.func68 rfl trivial ?_ rfl
  simp only [Tryz.ntmps68, List.size_toArray, List.length_cons, List.length_nil, Nat.reduceAdd, Nat.reduceSub, Array.replicate_succ, Array.replicate_zero, List.push_toArray, List.append_toArray, List.nil_append, List.cons_append]
  gi_wp2
  generalize ((((w.alloc (.cells #[.pointer (some ⟨b, 0, none⟩)] 24)).alloc (objO mb next)).alloc (hdO h)).alloc (.cells #[.int .i64 0] 29)) = W1 at *
  have HIM : Hid (Calls Tryz.prog 45 #[.agg #[.map (some mb), .int .i64 next]] W1 (RowEnd W1 W1.heap.size img)) := by
    rw [← himg]
    exact image_any (hm.below hb3) (hv.turn (M := fun _ => False) (Turn.of_below hb3) (fun _ _ h => h)) hn hk (by omega)
  have hil : img.length ≤ 1000000 := by rw [← himg]; exact hl
  have hcrl := crc_le img
  have hcv : IntKind.i64.wrap ((St.crc img : Nat) : Int) = ((St.crc img : Nat) : Int) := by rw [IntKind.wrap_i64]; omega
  have HIL := Lib.hid hil
  have HTT : Hid (∀ X, Below W1.heap.size W1 X → Half X) := fun X hX => hT.below (hb3.trans (hX.mono hb3.size))
  have hblk1 := (hb3.block b (lt_of_block hb)).trans hb
  have HTW := Lib.hid hT
  have HHD := Lib.hid hd
  have HBLK := Lib.hid hb
  have HMM := Lib.hid hM
  have HRR := Lib.hid hR
  have HMB := Lib.hid hMb
  have HRB := Lib.hid hRb
  have HG := Lib.hid hG
  have HGB := Lib.hid hgb
  have HH := Lib.hid hh
  have HC := Lib.hid hc
  have HE := Lib.hid he
  have HW := Lib.hid hw
  have HB3 := Lib.hid hb3
  have HIMG := Lib.hid himg
  have HFR := Lib.hid hfr
  have HX : Hid (∀ X, Below W1.heap.size W1 X → X.heap[B]? = some (.cells #[.pointer (some ⟨b, 0, none⟩)] 24 (0, 0)) ∧ X.heap[B + 1]? = some (objO mb next) ∧ X.heap[B + 2]? = some (hdO h) ∧ X.heap[B + 3]? = some (.cells #[.int .i64 0] 29 (0, 0)) ∧ X.heap[b]? = some (storeO mv0 nx0 hd0 g lv ((2 + count : Nat) : Int) (each : Int))) := fun X hX =>
    ⟨(hX.block _ (lt_of_block x0)).trans x0, (hX.block _ (lt_of_block x1)).trans x1, (hX.block _ (lt_of_block x2)).trans x2, (hX.block _ (lt_of_block x3)).trans x3, (hX.block _ (lt_of_block hblk1)).trans hblk1⟩
  have HZ1 := Lib.hid hz1
  have hBv := hB
  clear hd hb hM hR hMb hRb hG hT hgb hm hv hn hk hl hh hc he hw hb3 himg hfr x0 x1 x2 x3 hz1 hil hcrl hblk1
  gi_wp2_with (first
    | (refine ⟨trivial, ?_⟩; gi_at_call 45; refine (callsIn_wide.2 HIM.out).mono ?_; rintro e w2 ⟨v2, rfl, hr2, hb2⟩; obtain ⟨a2, c2, rfl, _⟩ := hr2.form; have HR2 := Lib.hid hr2; have HB2 := Lib.hid hb2; clear hr2 hb2)
    | (refine ⟨trivial, ?_⟩; gi_at_call 103; refine (callsIn_wide.2 (crcSum_any img _ _ _ w2.heap.size (HTT.out _ (HB2.out.alloc HB2.out.size _)) (HR2.out.below ((Below.refl _ _).alloc (Nat.le_refl _) _)) (by have := HIL.out; omega) (by simp))).mono ?_; rintro e w3 ⟨rfl, rfl⟩; obtain ⟨e0, e1, e2, e3, e4⟩ := HX.out _ (HB2.out.alloc HB2.out.size (.cells #[.slice a2 img.length c2] 44)); obtain ⟨k0, k1, k2, k3, k4, kf⟩ := hd_cells e2))
  obtain ⟨h', hh'⟩ : ∃ h' : St.Hd2, h' = ⟨h.turn, h.half, (img.length : Int), ((St.crc img : Nat) : Int), h.age⟩ := ⟨_, rfl⟩
  have hx3 : (((w2.alloc (.cells #[.slice a2 img.length c2] 44)).setCell ⟨B + 2, 2, none⟩ (.int .i64 (img.length : Int))).setCell ⟨B + 2, 3, none⟩ (.int .i64 ((St.crc img : Nat) : Int))).heap[B + 2]? = some (hdO h') := by
    rw [hh']
    exact (dk_set (o := 3) (u := .int .i64 ((St.crc img : Nat) : Int)) (dk_set (o := 2) (u := .int .i64 (img.length : Int)) e2)).trans rfl
  have hc3 : Chg [B + 2] (w2.alloc (.cells #[.slice a2 img.length c2] 44)) (((w2.alloc (.cells #[.slice a2 img.length c2] 44)).setCell ⟨B + 2, 2, none⟩ (.int .i64 (img.length : Int))).setCell ⟨B + 2, 3, none⟩ (.int .i64 ((St.crc img : Nat) : Int))) := (chg_set _ _ _ _).then1 (chg_set _ _ _ _)
  generalize (((w2.alloc (.cells #[.slice a2 img.length c2] 44)).setCell ⟨B + 2, 2, none⟩ (.int .i64 (img.length : Int))).setCell ⟨B + 2, 3, none⟩ (.int .i64 ((St.crc img : Nat) : Int))) = W3 at hx3 hc3 ⊢
  have hz1 := HZ1.out
  have z2 := HB2.out.size
  have hbl := lt_of_block HBLK.out
  have y0 := (hc3.block B (lt_of_block e0) (by simp)).trans e0
  have y1 := (hc3.block (B + 1) (lt_of_block e1) (by simp)).trans e1
  have y3 := (hc3.block (B + 3) (lt_of_block e3) (by simp)).trans e3
  have y4 := (hc3.block b (lt_of_block e4) (by simp; omega)).trans e4
  have hz3 := hc3.size
  have hza : (w2.alloc (.cells #[.slice a2 img.length c2] 44)).heap.size = w2.heap.size + 1 := by simp
  have hbw3 : Below w.heap.size w W3 := ((HB3.out.trans (HB2.out.mono HB3.out.size)).alloc (by omega) (.cells #[.slice a2 img.length c2] 44)).trans (hc3.below (by omega) (fun k hk => by simp at hk; omega))
  have hr3 : ByteRow W3 W1.heap.size (.slice a2 img.length c2) img := (HR2.out.below ((Below.refl _ _).alloc (Nat.le_refl _) _)).turn (M := fun k => k = B + 2) (Turn.of_chg hc3 (fun k hk => .inl (by simpa using hk))) (fun k h1 _ e => by omega)
  have hhh := HH.out
  obtain ⟨hm, hhm⟩ : ∃ hm : Nat, h.half.toNat * each = hm := ⟨_, rfl⟩
  have hmul : h.half * (each : Int) = (hm : Int) := by
    obtain ⟨a, ha⟩ : ∃ a : Nat, h.half = (a : Int) := ⟨h.half.toNat, by omega⟩
    rw [← hhm, ha, Int.toNat_natCast]
    simp
  have hmle : hm ≤ each := by
    have : h.half.toNat * each ≤ 1 * each := Nat.mul_le_mul_right _ (by omega)
    omega
  have hee := HE.out
  have hcc := HC.out
  have hfr := HFR.out
  obtain ⟨pos, hpos⟩ : ∃ pos, fr + hm = pos := ⟨_, rfl⟩
  have m1 : IntKind.i64.wrap (h.half * (each : Int)) = (hm : Int) := by rw [hmul, IntKind.wrap_i64]; omega
  have m2 : IntKind.i64.wrap ((fr : Int) + (hm : Int)) = (pos : Int) := by rw [IntKind.wrap_i64]; omega
  rw [hfr] at y4
  obtain ⟨b0, b1, b2, b3, b4, b5, b6, b7, b8, b9, b10, bf⟩ := cells11 (show W3.drew.heap[b]? = _ from y4)
  obtain ⟨l0, _⟩ := wl_cells1 (show W3.drew.heap[B]? = _ from y0)
  obtain ⟨t0, t1, t2, t3, t4, tf⟩ := hd_cells (show W3.drew.heap[B + 2]? = _ from hx3)
  have hh1 : h'.half = h.half := by rw [hh']
  have hh0 : h'.turn = h.turn := by rw [hh']
  rw [hh1] at t1
  have Y0 := Lib.hid y0
  have Y1 := Lib.hid y1
  have Y2 := Lib.hid hx3
  have Y3 := Lib.hid y3
  have Y4 := Lib.hid y4
  have HBW3 := Lib.hid hbw3
  have HR3 := Lib.hid hr3
  have HZ3 : Hid (B + 4 ≤ W1.heap.size ∧ W1.heap.size ≤ W3.heap.size ∧ b < B) := ⟨by omega, by omega, by omega⟩
  have HH' := Lib.hid hh'
  have HPOS : Hid (pos ≤ 10000 ∧ pos = 2 + count + h.half.toNat * each) := ⟨by omega, by omega⟩
  clear hx3 hc3 hz1 z2 hbl y0 y1 y3 y4 hz3 hza hbw3 hr3 hhh hhm hmul hmle hee hcc hfr hpos e0 e1 e2 e3 e4 k0 k1 k2 k3 k4 kf hh' HR2 HB2
  refine wpIn_wide.2 ?_
  refine wp_noPanic ?_
  have HS3 : Hid (∀ X, Below W3.heap.size W3 X → X.cell? ⟨B, 0, none⟩ = some (.pointer (some ⟨b, 0, none⟩)) ∧ X.cell? ⟨B + 2, 1, none⟩ = some (.int .i64 h.half) ∧ X.cell? ⟨b, 9, none⟩ = some (.int .i64 (fr : Int)) ∧ X.cell? ⟨b, 10, none⟩ = some (.int .i64 (each : Int))) := fun X hX => by
    have q1 := wl_cells1 ((hX.block B (lt_of_block Y0.out)).trans Y0.out)
    have q2 := hd_cells ((hX.block (B + 2) (lt_of_block Y2.out)).trans Y2.out)
    have q3 := cells11 ((hX.block b (lt_of_block Y4.out)).trans Y4.out)
    rw [hh1] at q2
    exact ⟨q1.1, q2.2.1, q3.2.2.2.2.2.2.2.2.2.1, q3.2.2.2.2.2.2.2.2.2.2.1⟩
  refine wp_region_lastL (S := (fun X => X.cell? ⟨B, 0, none⟩ = some (.pointer (some ⟨b, 0, none⟩)) ∧ X.cell? ⟨B + 2, 1, none⟩ = some (.int .i64 h.half) ∧ X.cell? ⟨b, 9, none⟩ = some (.int .i64 (fr : Int)) ∧ X.cell? ⟨b, 10, none⟩ = some (.int .i64 (each : Int)))) (by kernel_rfl) (by simp only [butLast]; rfl) (by simp only [lastOf]; rfl) (by kernel_rfl) (by kernel_rfl) ?_ (fun hHeld => ?_)
  focus exact HS3.out _ (Below.refl _ _).drew
  try simp only [List.size_toArray, List.length_cons, List.length_nil]
  refine wpAnyH_take (i := 0) (v := ?_) rfl (by kernel_rfl) (by kernel_rfl) (by kernel_rfl) (fun _ _ _ h => h) (Or.inl ⟨by rfl, ?_⟩) (by assumption) ?_
  rotate_left
  focus (intro w hSw; (try dsimp only at hSw); go_simp; try with_reducible rfl)
  try simp only [Act.put, List.getElem_toArray, List.getElem_cons_zero, List.getElem_cons_succ, List.setIfInBounds_toArray, List.set_cons_zero, List.set_cons_succ, Nat.zero_add]
  refine wpAnyH_take (i := 1) (v := ?_) rfl (by kernel_rfl) (by kernel_rfl) (by kernel_rfl) (fun _ _ _ h => h) (Or.inl ⟨by rfl, ?_⟩) (by assumption) ?_
  rotate_left
  focus (intro w hSw; (try dsimp only at hSw); go_simp; try with_reducible rfl)
  try simp only [Act.put, List.getElem_toArray, List.getElem_cons_zero, List.getElem_cons_succ, List.setIfInBounds_toArray, List.set_cons_zero, List.set_cons_succ, Nat.zero_add]
  refine wpAnyH_take (i := 2) (v := ?_) rfl (by kernel_rfl) (by kernel_rfl) (by kernel_rfl) (fun _ _ _ h => h) (Or.inl ⟨by rfl, ?_⟩) (by assumption) ?_
  rotate_left
  focus (intro w hSw; (try dsimp only at hSw); go_simp; try with_reducible rfl)
  try simp only [Act.put, List.getElem_toArray, List.getElem_cons_zero, List.getElem_cons_succ, List.setIfInBounds_toArray, List.set_cons_zero, List.set_cons_succ, Nat.zero_add]
  refine wpAnyH_take (i := 3) (v := ?_) rfl (by kernel_rfl) (by kernel_rfl) (by kernel_rfl) (fun _ _ _ h => h) (Or.inl ⟨by rfl, ?_⟩) (by assumption) ?_
  rotate_left
  focus (intro w hSw; (try dsimp only at hSw); go_simp; try with_reducible rfl)
  try simp only [Act.put, List.getElem_toArray, List.getElem_cons_zero, List.getElem_cons_succ, List.setIfInBounds_toArray, List.set_cons_zero, List.set_cons_succ, Nat.zero_add]
  refine wpAnyH_take (i := 4) (v := ?_) rfl (by kernel_rfl) (by kernel_rfl) (by kernel_rfl) (fun _ _ _ h => h) (Or.inl ⟨by rfl, ?_⟩) (by assumption) ?_
  rotate_left
  focus (intro w hSw; (try dsimp only at hSw); go_simp; try with_reducible rfl)
  try simp only [Act.put, List.getElem_toArray, List.getElem_cons_zero, List.getElem_cons_succ, List.setIfInBounds_toArray, List.set_cons_zero, List.set_cons_succ, Nat.zero_add]
  refine wpAnyH_take (i := 5) (v := ?_) rfl (by kernel_rfl) (by kernel_rfl) (by kernel_rfl) (fun _ _ _ h => h) (Or.inl ⟨by rfl, ?_⟩) (by assumption) ?_
  rotate_left
  focus (intro w hSw; (try dsimp only at hSw); go_simp; try with_reducible rfl)
  try simp only [Act.put, List.getElem_toArray, List.getElem_cons_zero, List.getElem_cons_succ, List.setIfInBounds_toArray, List.set_cons_zero, List.set_cons_succ, Nat.zero_add]
  refine wpAnyH_take (i := 6) (v := ?_) rfl (by kernel_rfl) (by kernel_rfl) (by kernel_rfl) (fun _ _ _ h => h) (Or.inl ⟨by rfl, ?_⟩) (by assumption) ?_
  rotate_left
  focus (intro w hSw; (try dsimp only at hSw); go_simp; try with_reducible rfl)
  try simp only [Act.put, List.getElem_toArray, List.getElem_cons_zero, List.getElem_cons_succ, List.setIfInBounds_toArray, List.set_cons_zero, List.set_cons_succ, Nat.zero_add]
  refine wpAnyH_take (i := 7) (v := ?_) rfl (by kernel_rfl) (by kernel_rfl) (by kernel_rfl) (fun _ _ _ h => h) (Or.inl ⟨by rfl, ?_⟩) (by assumption) ?_
  rotate_left
  focus (intro w hSw; (try dsimp only at hSw); go_simp; try with_reducible rfl)
  try simp only [Act.put, List.getElem_toArray, List.getElem_cons_zero, List.getElem_cons_succ, List.setIfInBounds_toArray, List.set_cons_zero, List.set_cons_succ, Nat.zero_add]
  refine wpAnyH_take (i := 8) (v := ?_) rfl (by kernel_rfl) (by kernel_rfl) (by kernel_rfl) (fun _ _ _ h => h) (Or.inl ⟨by rfl, ?_⟩) (by assumption) ?_
  rotate_left
  focus (intro w hSw; (try dsimp only at hSw); go_simp; try with_reducible rfl)
  try simp only [Act.put, List.getElem_toArray, List.getElem_cons_zero, List.getElem_cons_succ, List.setIfInBounds_toArray, List.set_cons_zero, List.set_cons_succ, Nat.zero_add]
  refine wpAnyH_take (i := 9) (v := ?_) rfl (by kernel_rfl) (by kernel_rfl) (by kernel_rfl) (fun _ _ _ h => h) (Or.inl ⟨by rfl, ?_⟩) (by assumption) ?_
  rotate_left
  focus (intro w hSw; (try dsimp only at hSw); go_simp; try with_reducible rfl)
  try simp only [Act.put, List.getElem_toArray, List.getElem_cons_zero, List.getElem_cons_succ, List.setIfInBounds_toArray, List.set_cons_zero, List.set_cons_succ, Nat.zero_add]
  refine wpAnyH_take (i := 10) (v := ?_) rfl (by kernel_rfl) (by kernel_rfl) (by kernel_rfl) (fun _ _ _ h => h) (Or.inl ⟨by rfl, ?_⟩) (by assumption) ?_
  rotate_left
  focus (intro w hSw; (try dsimp only at hSw); go_simp; try with_reducible rfl)
  try simp only [Act.put, List.getElem_toArray, List.getElem_cons_zero, List.getElem_cons_succ, List.setIfInBounds_toArray, List.set_cons_zero, List.set_cons_succ, Nat.zero_add]
  refine wpAnyH_take (i := 11) (v := ?_) rfl (by kernel_rfl) (by kernel_rfl) (by kernel_rfl) (fun _ _ _ h => h) (Or.inl ⟨by rfl, ?_⟩) (by assumption) ?_
  rotate_left
  focus (intro w hSw; (try dsimp only at hSw); go_simp; try with_reducible rfl)
  try simp only [Act.put, List.getElem_toArray, List.getElem_cons_zero, List.getElem_cons_succ, List.setIfInBounds_toArray, List.set_cons_zero, List.set_cons_succ, Nat.zero_add]
  refine wpAnyH_ready (rs := [12]) (by kernel_rfl) (by simp) ?_
  refine (AllReadyH.cons rfl (fun K' hK => ?_) AllReadyH.nil)
  go_simp
  refine hK.out _ _ (HS3.out _ ((Below.refl _ _).drew.alloc (by simp) _)) (fun hHeld => ?_)
  clear hK K'
  try simp only [Act.put, List.getElem_toArray, List.getElem_cons_zero, List.getElem_cons_succ, List.setIfInBounds_toArray, List.set_cons_zero, List.set_cons_succ, Nat.zero_add]
  refine wpAnyH_done (by kernel_rfl) ?_ _
  show Oper.wp _ _ _ _ _ _
  go_simp
  dsimp only [noPanic]
  obtain ⟨fb, hfb⟩ : ∃ fb, St.full img = fb := ⟨_, rfl⟩
  have HFB := Lib.hid hfb
  have hfl : fb.length ≤ 1000512 := by
    rw [← hfb]
    unfold St.full
    rw [List.length_append]
    have := HIL.out
    simp [St.zeros]
    omega
  have HFL := Lib.hid hfl
  have hb4 : Below W3.heap.size W3 (W3.alloc (.cells #[.int .i64 (pos : Int)] 3)).drew := ((Below.refl _ _).alloc (Nat.le_refl _) _).drew
  have hk4 : (W3.alloc (.cells #[.int .i64 (pos : Int)] 3)).drew.heap[W3.heap.size]? = some (.cells #[.int .i64 (pos : Int)] 3 (0, 0)) := heap_alloc_new W3 _
  generalize (W3.alloc (.cells #[.int .i64 (pos : Int)] 3)).drew = W4 at hb4 hk4 ⊢
  have HB4 := Lib.hid hb4
  have HK4 := Lib.hid hk4
  have HFU := Lib.hid (full_any (BytesIn.row (HR3.out.below hb4)) HIL.out)
  rw [hfb] at HFU
  clear hb4 hk4 hfl hfb b0 b1 b2 b3 b4 b5 b6 b7 b8 b9 b10 bf l0 t0 t1 t2 t3 t4 tf m1 m2 hcv
  gi_wp2_with (first
    | (refine ⟨trivial, ?_⟩; gi_at_call 125; refine (callsIn_wide.2 HFU.out).mono ?_; rintro e w5 ⟨v5, rfl, hr5, hb5⟩; obtain ⟨a5, c5, rfl, hc51, hc52⟩ := hr5.form; have HR5 := Lib.hid hr5; have HB5 := Lib.hid hb5; clear hr5 hb5)
    | (refine ⟨trivial, ?_⟩; gi_at_call 95; refine (chunk_in 5 a5 fb.length c5 512 (by omega) _).mono ?_; rintro e w' ⟨rfl, rfl⟩))
  -- THE RANGE
  have HT0W : Hid (Half w) := HTW.out
  clear hh0 hh1
  obtain ⟨KB, hKB⟩ : ∃ KB, W3.heap.size = KB := ⟨_, rfl⟩
  have hz5 := HB5.out.size
  have hz4 : KB < W4.heap.size := by rw [← hKB]; exact lt_of_block HK4.out
  have hz6 : ((w5.alloc (.cells #[.slice a5 fb.length c5] 44)).alloc (.cells #[.int .i64 512] 3)).heap.size = w5.heap.size + 2 := by simp
  have hz6' : (w5.alloc (.cells #[.slice a5 fb.length c5] 44)).heap.size = w5.heap.size + 1 := by simp
  have hb56 : Below w5.heap.size w5 ((w5.alloc (.cells #[.slice a5 fb.length c5] 44)).alloc (.cells #[.int .i64 512] 3)) := ((Below.refl _ _).alloc (Nat.le_refl _) _).alloc (by omega) _
  have hs6 : ((w5.alloc (.cells #[.slice a5 fb.length c5] 44)).alloc (.cells #[.int .i64 512] 3)).heap[w5.heap.size]? = some (.cells #[.slice a5 fb.length c5] 44 (0, 0)) := blk_alloc (heap_alloc_new w5 _) _
  have hn6 : ((w5.alloc (.cells #[.slice a5 fb.length c5] 44)).alloc (.cells #[.int .i64 512] 3)).heap[w5.heap.size + 1]? = some (.cells #[.int .i64 512] 3 (0, 0)) := hz6' ▸ heap_alloc_new _ _
  generalize ((w5.alloc (.cells #[.slice a5 fb.length c5] 44)).alloc (.cells #[.int .i64 512] 3)) = W6 at hz6 hb56 hs6 hn6 ⊢
  have hb46 : Below W4.heap.size W4 W6 := HB5.out.trans (hb56.mono hz5)
  have hb36 : Below W3.heap.size W3 W6 := HB4.out.trans (hb46.mono HB4.out.size)
  have hk6 : W6.heap[KB]? = some (.cells #[.int .i64 (pos : Int)] 3 (0, 0)) := by rw [← hKB]; exact (hb46.block _ (lt_of_block HK4.out)).trans HK4.out
  have hbw6 : Below w.heap.size w W6 := HBW3.out.trans (hb36.mono HBW3.out.size)
  obtain ⟨gm, hd6⟩ := (HHD.out.below hbw6).atM
  have HGM : Hid (gm < W6.heap.size) := by obtain ⟨_, _, _, _, _, _, hx⟩ := hd6; exact hx.map.lt
  have HD6 := Lib.hid hd6
  have hz3 := HZ3.out
  have HQ : Hid (W6.heap.size = w5.heap.size + 2 ∧ KB < W4.heap.size ∧ W4.heap.size ≤ w5.heap.size ∧ B + 4 ≤ KB ∧ b < B ∧ w.heap.size = B) := ⟨hz6, hz4, hz5, by omega, hz3.2.2, hB⟩
  have HMB' : Hid (∀ k, M k → k < B) := fun k hk => by have := HMM.out k hk; omega
  have HRB' : Hid (∀ k, R k → k < B) := fun k hk => by have := HRR.out k hk; omega
  have HX6 : Hid (W6.heap[B]? = some (.cells #[.pointer (some ⟨b, 0, none⟩)] 24 (0, 0)) ∧ W6.heap[B + 1]? = some (objO mb next) ∧ W6.heap[B + 2]? = some (hdO h') ∧ W6.heap[B + 3]? = some (.cells #[.int .i64 0] 29 (0, 0)) ∧ W6.heap[b]? = some (storeO mv0 nx0 hd0 g lv (fr : Int) (each : Int))) :=
    ⟨(hb36.block _ (lt_of_block Y0.out)).trans Y0.out, (hb36.block _ (lt_of_block Y1.out)).trans Y1.out, (hb36.block _ (lt_of_block Y2.out)).trans Y2.out, (hb36.block _ (lt_of_block Y3.out)).trans Y3.out, (hb36.block _ (lt_of_block Y4.out)).trans Y4.out⟩
  have HROW : Hid (∀ X, Turn (fun k => M k ∨ k = KB ∨ k = B + 3) W6 X → ByteRow X W4.heap.size (.slice a5 fb.length c5) fb) := fun X hX => (HR5.out.below hb56).turn hX (fun k h1 h2 e => by
    rcases e with e | e | e
    · have := HMB'.out k e; omega
    · omega
    · omega)
  have HBY : Hid (BytesIn W6 (.slice a5 fb.length c5) fb) := BytesIn.row (HR5.out.below hb56)
  have HBW6 := Lib.hid hbw6
  have HSPOS : Hid (((2 + count : Nat) : Int) + h.half * (each : Int) = (pos : Int)) := by show _ = _; have h1 := HPOS.out.2; have h2 := HH.out; obtain ⟨a, ha⟩ : ∃ a : Nat, h.half = (a : Int) := ⟨h.half.toNat, by omega⟩; rw [h1, ha, Int.toNat_natCast]; push_cast; rfl
  have hcl := hc51
  have hfl := HFL.out
  rw [hKB]
  clear hb56 hb46 hb36 hbw6 hd6
  refine wpIn_rangeFunc_ownH rfl (by omega) (gf := 143) (lb := #[.pointer (some ⟨w5.heap.size, 0, none⟩), .pointer (some ⟨w5.heap.size + 1, 0, none⟩)]) rfl trivial (enters_of Tryz.func143 (by kernel_rfl) rfl)
    (chunk_stops 5 (by omega) w5.heap.size (w5.heap.size + 1) a5 fb.length c5 512 _ hcl (by omega) (by omega) (by omega) rfl W6 (by omega) (by omega) (by simp [World.cell?, hs6]) (by simp [World.cell?, hn6])) kpC_t (kpC_b (by omega) (by omega)) (Below.refl _ _) (fun _ => rfl)
    (fun (pre : List (PC 512 fb.length)) W => LaI W6 KB g gm W6.heap.size pos fb D M R (pre.map Subtype.val) W)
    (fun c (pre : List (PC 512 fb.length)) W => LaX W6 KB (B + 3) g gm W6.heap.size pos fb D M R c (pre.map Subtype.val) W)
    (fun pre A B row hs hg hr => hs.own (by omega) HGM.out rfl hg hr)
    (fun c _ A B row hs hg hr => hs.own (by omega) HGM.out rfl hg hr)
    ⟨D, rfl, HD6.out.gro _, Turn.refl _ _, by simpa using hk6⟩
    (fun (x : PC 512 fb.length) a' W => a' = { tmps := #[.pointer (some ⟨b, 0, none⟩), .agg #[.map (some mb), .int .i64 next], hdV h, .pointer (some ⟨B, 0, none⟩), .pointer (some ⟨B + 1, 0, none⟩), .pointer (some ⟨B + 1 + 1, 0, none⟩), .pointer (some ⟨B + 1 + 1 + 1, 0, none⟩), .slice a2 img.length c2, .pointer (some ⟨KB, 0, none⟩), chunkV a5 fb.length 512 x.1, undef, undef, undef, undef, .agg #[.map (some mb), .int .i64 next], .slice a2 img.length c2, .slice a2 img.length c2, .int .i64 (img.length : Int), .slice a2 img.length c2, .slice (some ⟨w2.heap.size, 0, none⟩) 1 1, .int .u32 ((St.crc img : Nat) : Int), .int .i64 ((St.crc img : Nat) : Int), .pointer (some ⟨B + 1 + 1, 2, none⟩), .pointer (some ⟨B + 1 + 1, 3, none⟩), .pointer (some ⟨b, 0, none⟩), .pointer (some ⟨b, 0, none⟩), .pointer (some ⟨b, 9, none⟩), .int .i64 (fr : Int), .pointer (some ⟨B + 1 + 1, 1, none⟩), .int .i64 h.half, .pointer (some ⟨b, 0, none⟩), .pointer (some ⟨b, 0, none⟩), .pointer (some ⟨b, 10, none⟩), .int .i64 (each : Int), .int .i64 (hm : Int), .int .i64 (pos : Int), .slice a2 img.length c2, .slice a5 fb.length c5, .func (.func 143) #[] #[.pointer (some ⟨w5.heap.size, 0, none⟩), .pointer (some ⟨w5.heap.size + 1, 0, none⟩)], chunkV a5 fb.length 512 x.1, undef, undef, undef, undef, undef, undef, undef, undef, undef, undef, undef, undef, undef, undef, undef, undef, undef, undef, undef, undef, undef, undef, undef, undef, undef, undef, undef, undef, undef, undef, undef, undef, undef, undef, undef, undef, undef, undef, undef, undef, undef, undef, undef, undef, undef, undef, undef, undef, undef, undef, undef], defers := [] })
    (fun x a' _ X Y row hs hg hr => hs)
    ?assign ?body ?done ?stop
  case assign =>
    rintro l pre x W K hI hK
    gi_wp2
    exact hK _ _ ((KeepsOthers.refl _).from _) ⟨rfl, rfl⟩ hI rfl
  case stop =>
    rintro Dd c pre W hDd hsp hI hKD
    obtain ⟨rfl, pre0, x, Dp, Dk, xe, hpre, hxe, hwr, hwr2, hdk, htk, heb⟩ := hI
    have hsp' : pre.map Subtype.val = List.range pre.length := hsp
    have hxl : x * 512 < fb.length := by
      have : x ∈ pre.map Subtype.val := by rw [hpre]; simp
      obtain ⟨y, _, rfl⟩ := List.mem_map.1 this
      exact y.2
    have hpl : pre.length = pre0.length + 1 := by have := congrArg List.length hpre; simpa using this
    rw [hpre, hpl] at hsp'
    obtain ⟨rest, hcut⟩ := chunks_cut hsp' hxl
    have hstop := writesD_stop ((fb.drop (x * 512)).take 512) rest _ _ _ _ _ _ hwr (by rw [List.length_map, show (pos : Int) + (pre0.length : Int) = ((pos + pre0.length : Nat) : Int) by push_cast; rfl]; exact hwr2)
    rw [← hcut] at hstop
    have hspec : St.laid count each (ovO ov) next h D = (.error xe, Dk) := by
      unfold St.laid
      rw [HIMG.out, HFB.out, HSPOS.out]
      exact andThen_no hstop
    have hq := HQ.out
    have hgm := HGM.out
    obtain ⟨y0, _⟩ := wl_cells1 (((putObj_turn W Dd (.deferred none)).block (B + 3) (lt_of_block heb) (by omega)).trans heb)
    have hbx : W.heap[b]? = some (storeO mv0 nx0 hd0 g lv (fr : Int) (each : Int)) := (htk.block b (by omega) (fun e => by rcases e with e | e | e; exact HMB.out e; omega; omega)).trans HX6.out.2.2.2.2
    rw [← HFR.out] at hbx
    have hend := laid_end (w := w) (X := W) (b := b) (g := g) (Dd := Dd) (mb := mb) (mv0 := mv0) (lv := lv) (nx0 := nx0) (next := next) (hd0 := hd0) (fr := ((2 + count : Nat) : Int)) (ea := (each : Int)) (M := M) (R := R) (r := (.error xe, Dk)) (laid_out HBW6.out htk (fun k hk => by rcases hk with hk | hk | hk; exact .inl hk; exact .inr (.inr (by omega)); exact .inr (.inr (by omega)))) hdk.cells.at_
      (fun k hk => ⟨by rcases hk.1 with h | h; exact .inl h; exact .inr (by omega), fun e => by
        rcases hk.2 with h | ⟨c, t, fz, hh⟩
        · omega
        · rw [e, hKD] at hh; cases hh⟩)
      (fun k hk => ⟨by rcases hk.1 with h | h; exact .inl h; exact .inr (by omega), fun e => by
        obtain ⟨c, t, fz, hh⟩ := hk.2
        rw [e, hKD] at hh; cases hh⟩) hbx (by omega) (by omega)
    rw [← hspec] at hend
    clear hsp hsp' hxl hpl hcut hstop hpre hxe hwr hwr2 hdk htk hq hgm hbx
    gi_wp2
    refine ⟨by simp, .inl ⟨_, _, rfl, run_takeDeferred hKD, ?_⟩⟩
    refine ⟨.int .i64 xe, by simp [results, Tryz.results68, go_sem, y0], ?_⟩
    rw [hspec] at hend ⊢
    exact hend
  case done =>
    rintro Dd xs W hDd hxs hI hKD
    obtain ⟨Dk, hwr, hdk, htk, hkb⟩ := hI
    have hwr2 : St.writesD (pos : Int) (St.chunks 512 fb) D = (.ok (), Dk) := by
      rw [chunks_range (by omega) fb.length fb (Nat.le_refl _)]
      have hxs' : xs.map Subtype.val = List.range ((fb.length + 512 - 1) / 512) := hxs
      rw [hxs'] at hwr
      exact hwr
    have HWR := Lib.hid hwr2
    have hq := HQ.out
    have hgm := HGM.out
    have hzW := htk.size
    have hDl := lt_of_block hKD
    obtain ⟨M1, hM1⟩ : ∃ M1 : Nat → Prop, M1 = (fun k => Gro M W6.heap.size k ∧ (k = gm ∨ IsCells W k)) := ⟨_, rfl⟩
    obtain ⟨R1, hR1⟩ : ∃ R1 : Nat → Prop, R1 = (fun k => Gro R W6.heap.size k ∧ IsCells W k) := ⟨_, rfl⟩
    have hm1 : ∀ k, M1 k → (M k ∨ W6.heap.size ≤ k) ∧ k ≠ Dd := fun k hk => by
      rw [hM1] at hk
      refine ⟨hk.1, fun e => ?_⟩
      rcases hk.2 with h | ⟨c, t, fz, hh⟩
      · omega
      · rw [e, hKD] at hh; cases hh
    have hr1 : ∀ k, R1 k → (R k ∨ W6.heap.size ≤ k) ∧ k ≠ Dd := fun k hk => by
      rw [hR1] at hk
      refine ⟨hk.1, fun e => ?_⟩
      obtain ⟨c, t, fz, hh⟩ := hk.2
      rw [e, hKD] at hh; cases hh
    have hdc : DkAt W g Dk M1 R1 := by rw [hM1, hR1]; exact hdk.cells.at_
    have hst : ∀ k, k < W6.heap.size → ¬ M k → k ≠ KB → W.heap[k]? = W6.heap[k]? := fun k h1 h2 h3 => htk.block k h1 (fun e => by rcases e with e | e; exact h2 e; exact h3 e)
    have hnB : ∀ k, B ≤ k → ¬ M k := fun k h e => by have := HMB'.out k e; omega
    have hx6 := HX6.out
    have hgx : ∀ k, k < W6.heap.size → ¬ M k → ¬ Gro M1 W.heap.size k := fun k h1 h2 h => by
      rcases h with h | h
      · rcases (hm1 k h).1 with h | h
        · exact h2 h
        · omega
      · omega
    have hgD : ¬ Gro M1 W.heap.size Dd := fun h => by
      rcases h with h | h
      · exact (hm1 Dd h).2 rfl
      · omega
    have hKP : ∀ X, Turn (Gro M1 W.heap.size) W X → X.heap[B]? = some (.cells #[.pointer (some ⟨b, 0, none⟩)] 24 (0, 0)) ∧ X.heap[B + 1]? = some (objO mb next) ∧ X.heap[B + 1 + 1]? = some (hdO h') ∧ X.heap[B + 1 + 1 + 1]? = some (.cells #[.int .i64 0] 29 (0, 0)) ∧ X.heap[b]? = some (storeO mv0 nx0 hd0 g lv (fr : Int) (each : Int)) ∧ X.heap[Dd]? = some (.deferred (some [])) := fun X hX =>
      ⟨(hX.block B (by omega) (hgx B (by omega) (hnB B (by omega)))).trans ((hst B (by omega) (hnB B (by omega)) (by omega)).trans hx6.1),
       (hX.block (B + 1) (by omega) (hgx (B + 1) (by omega) (hnB (B + 1) (by omega)))).trans ((hst (B + 1) (by omega) (hnB (B + 1) (by omega)) (by omega)).trans hx6.2.1),
       (hX.block (B + 2) (by omega) (hgx (B + 2) (by omega) (hnB (B + 2) (by omega)))).trans ((hst (B + 2) (by omega) (hnB (B + 2) (by omega)) (by omega)).trans hx6.2.2.1),
       (hX.block (B + 3) (by omega) (hgx (B + 3) (by omega) (hnB (B + 3) (by omega)))).trans ((hst (B + 3) (by omega) (hnB (B + 3) (by omega)) (by omega)).trans hx6.2.2.2.1),
       (hX.block b (by omega) (hgx b (by omega) HMB.out)).trans ((hst b (by omega) HMB.out (by omega)).trans hx6.2.2.2.2),
       (hX.block Dd (by omega) hgD).trans hKD⟩
    have HKP := Lib.hid hKP
    have hout : ∀ X, Turn (Gro M1 W.heap.size) W X → Turn (fun k => M k ∨ k = b) w X := fun X hX => laid_out (M2 := fun k => (M k ∨ k = KB) ∨ W6.heap.size ≤ k) HBW6.out ((htk.mono (fun k hk => .inl hk)).trans hX (fun k hk => by
      rcases hk with hk | hk
      · rcases (hm1 k hk).1 with h | h
        · exact .inl (.inl (.inl h))
        · exact .inl (.inr h)
      · exact .inl (.inr (by omega)))) (fun k hk => by rcases hk with (hk | hk) | hk; exact .inl hk; exact .inr (.inr (by omega)); exact .inr (.inr (by omega)))
    have hFAIL : ∀ X Dx xe, DkAt X g Dx (Gro M1 W.heap.size) (Gro R1 W.heap.size) → Turn (Gro M1 W.heap.size) W X → St.laid count each (ovO ov) next h D = (.error xe, Dx) →
        LaidEnd w b g mv0 nx0 hd0 lv ((2 + count : Nat) : Int) (each : Int) mb next M R (St.laid count each (ovO ov) next h D) (.returned (.int .i64 xe)) ((X.setCell ⟨B + 1 + 1 + 1, 0, none⟩ (.int .i64 xe)).putObj Dd (.deferred none)) ∧ ((X.setCell ⟨B + 1 + 1 + 1, 0, none⟩ (.int .i64 xe)).putObj Dd (.deferred none)).cell? ⟨B + 1 + 1 + 1, 0, none⟩ = some (.int .i64 xe) ∧ (X.setCell ⟨B + 1 + 1 + 1, 0, none⟩ (.int .i64 xe)).heap[Dd]? = some (.deferred (some [])) := fun X Dx xe hdx htx hsp => by
      obtain ⟨f0, f1, f2, f3, f4, f5⟩ := hKP X htx
      have c8 : Chg [B + 1 + 1 + 1] X (X.setCell ⟨B + 1 + 1 + 1, 0, none⟩ (.int .i64 xe)) := chg_set _ _ _ _
      have hx8 : (X.setCell ⟨B + 1 + 1 + 1, 0, none⟩ (.int .i64 xe)).heap[B + 1 + 1 + 1]? = some (.cells #[.int .i64 xe] 29 (0, 0)) := (dk_set f3).trans rfl
      generalize X.setCell ⟨B + 1 + 1 + 1, 0, none⟩ (.int .i64 xe) = X' at c8 hx8 ⊢
      have t8 : Turn (fun k => k = B + 1 + 1 + 1) X X' := Turn.of_chg c8 (fun k hk => .inl (by simpa using hk))
      have hd5 := (c8.block Dd (lt_of_block f5) (by simp; omega)).trans f5
      have hb5 := (c8.block b (lt_of_block f4) (by simp; omega)).trans f4
      rw [← HFR.out] at hb5
      have hnM : ¬ Gro M1 W.heap.size (B + 1 + 1 + 1) := hgx _ (by omega) (hnB _ (by omega))
      have hnR : ¬ Gro R1 W.heap.size (B + 1 + 1 + 1) := fun hk => by
        rcases hk with hk | hk
        · rcases (hr1 _ hk).1 with h | h
          · have := HRB'.out _ h; omega
          · omega
        · omega
      have hend := laid_end (w := w) (X := X') (b := b) (g := g) (Dd := Dd) (mb := mb) (mv0 := mv0) (lv := lv) (nx0 := nx0) (next := next) (hd0 := hd0) (fr := ((2 + count : Nat) : Int)) (ea := (each : Int)) (M := M) (R := R) (r := (.error xe, Dx)) ((hout X htx).trans t8 (fun k hk => .inr (by omega))) (hdx.turn t8 (fun k hk e => hnM (e ▸ hk)) (fun k hk e => hnR (e ▸ hk)))
        (fun k hk => by
          rcases hk with hk | hk
          · exact ⟨by rcases (hm1 k hk).1 with h | h; exact .inl h; exact .inr (by omega), (hm1 k hk).2⟩
          · exact ⟨.inr (by omega), by omega⟩)
        (fun k hk => by
          rcases hk with hk | hk
          · exact ⟨by rcases (hr1 k hk).1 with h | h; exact .inl h; exact .inr (by omega), (hr1 k hk).2⟩
          · exact ⟨.inr (by omega), by omega⟩) hb5 (by omega) (by omega)
      rw [← hsp] at hend
      refine ⟨?_, (wl_cells1 (((putObj_turn X' Dd (.deferred none)).block _ (lt_of_block hx8) (by omega)).trans hx8)).1, hd5⟩
      rw [hsp] at hend ⊢
      exact hend
    have hSUCC : ∀ X0 X Dx, DkAt X0 g Dx (Gro M1 W.heap.size) (Gro R1 W.heap.size) → Turn (Gro M1 W.heap.size) W X0 → Chg [b] X0 X → X.heap[b]? = some (storeO (.map (some mb)) next h' g lv (fr : Int) (each : Int)) → St.laid count each (ovO ov) next h D = (.ok h', Dx) →
        LaidEnd w b g mv0 nx0 hd0 lv ((2 + count : Nat) : Int) (each : Int) mb next M R (St.laid count each (ovO ov) next h D) (.returned (.int .i64 0)) ((X.setCell ⟨B + 1 + 1 + 1, 0, none⟩ (.int .i64 0)).putObj Dd (.deferred none)) ∧ ((X.setCell ⟨B + 1 + 1 + 1, 0, none⟩ (.int .i64 0)).putObj Dd (.deferred none)).cell? ⟨B + 1 + 1 + 1, 0, none⟩ = some (.int .i64 0) ∧ (X.setCell ⟨B + 1 + 1 + 1, 0, none⟩ (.int .i64 0)).heap[Dd]? = some (.deferred (some [])) := fun X0 X Dx hdx0 htx0 hcx hbx hsp => by
      obtain ⟨f0, f1, f2, f30, f4, f50⟩ := hKP X0 htx0
      have f3 := (hcx.block _ (lt_of_block f30) (by simp; omega)).trans f30
      have f5 := (hcx.block _ (lt_of_block f50) (by simp; omega)).trans f50
      have tb : Turn (fun k => k = b) X0 X := Turn.of_chg hcx (fun k hk => .inl (by simpa using hk))
      have hbM : ¬ Gro M1 W.heap.size b := hgx b (by omega) HMB.out
      have hbR : ¬ Gro R1 W.heap.size b := fun hk => by
        rcases hk with hk | hk
        · rcases (hr1 _ hk).1 with h | h
          · exact HRB.out h
          · omega
        · omega
      have hdx := hdx0.turn tb (fun k hk e => hbM (e ▸ hk)) (fun k hk e => hbR (e ▸ hk))
      have c8 : Chg [B + 1 + 1 + 1] X (X.setCell ⟨B + 1 + 1 + 1, 0, none⟩ (.int .i64 0)) := chg_set _ _ _ _
      have hx8 : (X.setCell ⟨B + 1 + 1 + 1, 0, none⟩ (.int .i64 0)).heap[B + 1 + 1 + 1]? = some (.cells #[.int .i64 0] 29 (0, 0)) := (dk_set f3).trans rfl
      generalize X.setCell ⟨B + 1 + 1 + 1, 0, none⟩ (.int .i64 0) = X' at c8 hx8 ⊢
      have t8 : Turn (fun k => k = B + 1 + 1 + 1) X X' := Turn.of_chg c8 (fun k hk => .inl (by simpa using hk))
      have hd5 := (c8.block Dd (lt_of_block f5) (by simp; omega)).trans f5
      have hb5 := (c8.block b (lt_of_block hbx) (by simp; omega)).trans hbx
      rw [← HFR.out] at hb5
      have hnM : ¬ Gro M1 W.heap.size (B + 1 + 1 + 1) := hgx _ (by omega) (hnB _ (by omega))
      have hnR : ¬ Gro R1 W.heap.size (B + 1 + 1 + 1) := fun hk => by
        rcases hk with hk | hk
        · rcases (hr1 _ hk).1 with h | h
          · have := HRB'.out _ h; omega
          · omega
        · omega
      have hend := laid_end (w := w) (X := X') (b := b) (g := g) (Dd := Dd) (mb := mb) (mv0 := mv0) (lv := lv) (nx0 := nx0) (next := next) (hd0 := hd0) (fr := ((2 + count : Nat) : Int)) (ea := (each : Int)) (M := M) (R := R) (r := (.ok h', Dx)) (((hout X0 htx0).trans tb (fun k hk => .inl (.inr hk))).trans t8 (fun k hk => .inr (by omega))) (hdx.turn t8 (fun k hk e => hnM (e ▸ hk)) (fun k hk e => hnR (e ▸ hk)))
        (fun k hk => by
          rcases hk with hk | hk
          · exact ⟨by rcases (hm1 k hk).1 with h | h; exact .inl h; exact .inr (by omega), (hm1 k hk).2⟩
          · exact ⟨.inr (by omega), by omega⟩)
        (fun k hk => by
          rcases hk with hk | hk
          · exact ⟨by rcases (hr1 k hk).1 with h | h; exact .inl h; exact .inr (by omega), (hr1 k hk).2⟩
          · exact ⟨.inr (by omega), by omega⟩) hb5 (by omega) (by omega)
      rw [← hsp] at hend
      refine ⟨?_, (wl_cells1 (((putObj_turn X' Dd (.deferred none)).block _ (lt_of_block hx8) (by omega)).trans hx8)).1, hd5⟩
      rw [hsp] at hend ⊢
      exact hend
    have HSUCC := Lib.hid hSUCC
    have HFAIL := Lib.hid hFAIL
    have HOUT := Lib.hid hout
    have HDC := Lib.hid hdc
    have hww := writesD_waits _ _ _ _ hwr2
    have hcn := chunks_range (k := 512) (by omega) fb.length fb (Nat.le_refl _)
    have hwl : Dk.waits.length ≤ 200000 := by
      rw [hcn, List.length_map, List.length_range] at hww
      have := HW.out
      have := HFL.out
      omega
    have HWL := Lib.hid hwl
    have HBA := Lib.hid (dkBarrier_any hdc (by omega))
    obtain ⟨⟨Db, be⟩, hbar⟩ : ∃ y, Dk.barrier = y := ⟨_, rfl⟩
    have hbw := barrier_waits Dk
    rw [hbar] at HBA hbw
    have HBAR := Lib.hid hbar
    have HBW2 : Hid (Db.waits.length ≤ 200000) := by show _ ≤ _; dsimp only at hbw; omega
    obtain ⟨f0, f1, f2, f3, f4, f5⟩ := hKP W (Turn.refl _ _)
    obtain ⟨l0, _⟩ := wl_cells1 f0
    obtain ⟨r0, rf⟩ := wl_cells1 f3
    obtain ⟨_, _, _, _, _, _, _, b7, _⟩ := cells11 f4
    have HQD : Hid (W6.heap.size ≤ Dd ∧ Dd < W.heap.size ∧ W6.heap.size ≤ W.heap.size) := ⟨hDd, hDl, hzW⟩
    have hsp0 : ∀ be', be' ≠ 0 → St.laid count each (ovO ov) next h D = (if be = be' then (.error be', Db) else St.laid count each (ovO ov) next h D) ∨ True := fun _ _ => .inr trivial
    clear hsp0 hwr hdk htk hkb hwr2 hxs hq hgm hzW hDl hM1 hR1 hm1 hr1 hdc hst hnB hx6 hgx hgD hKP hout hFAIL hSUCC hww hcn hwl hbar hbw f0 f1 f2 f3 f4 f5
    by_cases hbe : be = 0
    · subst hbe
      gi_wp2_with (refine ⟨trivial, ?_⟩; gi_at_call 97; refine (callsIn_wide.2 HBA.out).mono ?_; rintro e wA ⟨he, hdA, htA⟩; subst he; have HDA := Lib.hid hdA; have HTA : Hid (Turn (Gro M1 W.heap.size) W wA) := htA.mono (fun k hk => .inl hk); clear hdA htA HBA)
      have HSS : Hid (∀ X, Turn (Gro M1 W.heap.size) W X → X.cell? ⟨B, 0, none⟩ = some (.pointer (some ⟨b, 0, none⟩)) ∧ X.cell? ⟨b, 7, none⟩ = some (.pointer (some ⟨g, 0, none⟩)) ∧ X.cell? ⟨B + 1 + 1, 0, none⟩ = some (.int .i64 h'.turn) ∧ X.cell? ⟨B + 1 + 1, 1, none⟩ = some (.int .i64 h'.half) ∧ X.cell? ⟨B + 1 + 1, 2, none⟩ = some (.int .i64 h'.size) ∧ X.cell? ⟨B + 1 + 1, 3, none⟩ = some (.int .i64 h'.sum) ∧ X.cell? ⟨B + 1 + 1, 4, none⟩ = some (.int .i64 h'.age)) := fun X hX => by
        obtain ⟨f0, f1, f2, f3, f4, f5⟩ := HKP.out X hX
        obtain ⟨p0, p1, p2, p3, p4, _⟩ := hd_cells f2
        exact ⟨(wl_cells1 f0).1, (cells11 f4).2.2.2.2.2.2.2.1, p0, p1, p2, p3, p4⟩
      have hok : HdOk h' := by
        have h1 := HH.out
        have h2 := crc_le img
        have h3 := HIL.out
        rw [HH'.out]
        exact ⟨h1.1, ⟨h1.2.1.1, by show h.half ≤ _; omega⟩, ⟨by show (0 : Int) ≤ (img.length : Int); omega, by show (img.length : Int) ≤ _; omega⟩, ⟨by show (0 : Int) ≤ ((St.crc img : Nat) : Int); omega, by show ((St.crc img : Nat) : Int) ≤ _; omega⟩, h1.2.2⟩
      have HHB := Lib.hid (fun X hX => headBytes_any hok X hX)
      have hbl : (St.Hd2.bytes h').length ≤ 1000 := by
        have := hdB_len hok 5
        rw [← hdB_bytes, St.close_len]
        omega
      have HHBL := Lib.hid hbl
      have hbt := hok.t
      have hmd : IntKind.i64.wrap (h'.turn.tmod 2) = h'.turn % 2 := by rw [Int.tmod_eq_emod_of_nonneg hbt.1, IntKind.wrap_i64]; omega
      have hms : IntKind.i64.wrap (1 - h'.turn % 2) = 1 - h'.turn % 2 := by rw [IntKind.wrap_i64]; omega
      have hms3 : IntKind.i64.wrap (1 - h'.turn.tmod 2) = 1 - h'.turn % 2 := by rw [Int.tmod_eq_emod_of_nonneg hbt.1]; exact hms
      have hms2 : 0 ≤ 1 - h'.turn % 2 ∧ 1 - h'.turn % 2 ≤ 1 := by omega
      have HMS2 := Lib.hid hms2
      have htn : h'.turn = h.turn := by rw [HH'.out]
      have HTN := Lib.hid htn
      have hTA : Half wA := by
        refine (HT0W.out).turn (HOUT.out wA HTA.out) (fun e => ?_)
        rcases e with e | e
        · exact HG.out e
        · exact HGB.out e
      have HHA := Lib.hid hTA
      obtain ⟨⟨Dl, we⟩, hwrt⟩ : ∃ y, Db.write (1 - h'.turn % 2) (St.full (St.Hd2.bytes h')) = y := ⟨_, rfl⟩
      have HWRT := Lib.hid hwrt
      have t0 := hbt.1
      clear hok hbl hbt hms2 htn hTA hwrt l0 r0 rf b7
      refine wpIn_wide.2 ?_
      go_region_held3 (fun X => X.cell? ⟨B, 0, none⟩ = some (.pointer (some ⟨b, 0, none⟩)) ∧ X.cell? ⟨b, 7, none⟩ = some (.pointer (some ⟨g, 0, none⟩)) ∧ X.cell? ⟨B + 1 + 1, 0, none⟩ = some (.int .i64 h'.turn) ∧ X.cell? ⟨B + 1 + 1, 1, none⟩ = some (.int .i64 h'.half) ∧ X.cell? ⟨B + 1 + 1, 2, none⟩ = some (.int .i64 h'.size) ∧ X.cell? ⟨B + 1 + 1, 3, none⟩ = some (.int .i64 h'.sum) ∧ X.cell? ⟨B + 1 + 1, 4, none⟩ = some (.int .i64 h'.age))
        (first | exact HSS.out _ HTA.out.drew | exact HSS.out _ (HTA.out.thenBelow HB9.out) | exact HSS.out _ (HTA.out.thenBelow HB10.out) | exact HSS.out _ HT11.out)
        (first
          | (go_at_call 126; refine (HHB.out _ (HHA.out.below (Below.refl _ _).drew)).mono ?_; rintro e w9 ⟨v9, rfl, hr9, hb9⟩; obtain ⟨hbs, hbse⟩ : ∃ z, St.Hd2.bytes h' = z := ⟨_, rfl⟩; rw [hbse] at hr9; have HBSE := Lib.hid hbse; obtain ⟨a9, c9, rfl, _⟩ := hr9.form; have HR9 := Lib.hid hr9; have HB9 : Hid (Below wA.heap.size wA w9) := (Below.refl _ _).drew.trans hb9; clear hr9 hb9 hbse)
          | (go_at_call 125; have hq1 := full_any (BytesIn.row HR9.out) (by have h1 := HHBL.out; rw [HBSE.out] at h1; omega); (with_reducible refine hq1.mono ?_); clear hq1; rintro e w10 ⟨v10, rfl, hr10, hb10⟩; obtain ⟨ff, hffe⟩ : ∃ z, St.full hbs = z := ⟨_, rfl⟩; rw [hffe] at hr10; have HFFE := Lib.hid hffe; obtain ⟨a10, c10, rfl, _⟩ := hr10.form; have HR10 := Lib.hid hr10; have HB10 : Hid (Below wA.heap.size wA w10) := HB9.out.trans (hb10.mono HB9.out.size); clear hr10 hb10 hffe)
          | (go_at_call 67; have hq2 := dkWrite_any (HDA.out.below HB10.out) (1 - h'.turn % 2) (WalkArith.wf_i64 (by have := HMS2.out; omega)) _ ff (BytesIn.row HR10.out) (by have h1 := HHBL.out; rw [HBSE.out] at h1; rw [← HFFE.out]; unfold St.full; rw [List.length_append]; simp [St.zeros]; omega) (by have := HBW2.out; omega); (have hq3 : Db.write (1 - h'.turn % 2) ff = (Dl, we) := by rw [← HFFE.out, ← HBSE.out]; exact HWRT.out); rw [hq3] at hq2; (with_reducible refine hq2.mono ?_); clear hq2 hq3; rintro e w11 ⟨he, hd11, ht11⟩; subst he; have HT11 : Hid (Turn (Gro M1 W.heap.size) W w11) := (HTA.out.thenBelow HB10.out).trans ht11 (fun k hk => .inl hk); have hz11 := (HTA.out.thenBelow HB10.out).size; have HD11 : Hid (DkAt w11 g Dl (Gro M1 W.heap.size) (Gro R1 W.heap.size)) := hd11.mono (fun k _ hk => hk.gro hz11) (fun k _ hk => hk.gro hz11); clear hd11 ht11 hz11))
      have hwl2 := write_waits Db (1 - h'.turn % 2) (St.full (St.Hd2.bytes h'))
      rw [HWRT.out] at hwl2
      have HWL2 : Hid (Dl.waits.length ≤ 200001) := by show _ ≤ _; have := HBW2.out; dsimp only at hwl2; omega
      have HB2A := Lib.hid (dkBarrier_any HD11.out (by have := HWL2.out; omega))
      obtain ⟨⟨De, ee⟩, hbr2⟩ : ∃ y, Dl.barrier = y := ⟨_, rfl⟩
      rw [hbr2] at HB2A
      have HBR2 := Lib.hid hbr2
      obtain ⟨f0, f1, f2, f3, f4, f5⟩ := HKP.out w11 HT11.out
      obtain ⟨l0, _⟩ := wl_cells1 f0
      obtain ⟨r0, rf⟩ := wl_cells1 f3
      obtain ⟨_, _, _, _, _, _, _, b7, _⟩ := cells11 f4
      have HSP := Lib.hid (laid_spec (D := D) (o := ovO ov) (next := next) HIMG.out HFB.out HSPOS.out HH'.out)
      clear hwl2 hbr2 f0 f1 f2 f3 f4 f5 hmd hms hms3
      by_cases hwe : we = 0
      · subst hwe
        have hw1 : St.writeD (1 - h'.turn % 2) (St.full h'.bytes) Db = (.ok (), Dl) := (writeD_ok (by rw [HWRT.out])).trans (by rw [HWRT.out])
        have HW1 := Lib.hid hw1
        clear hw1
        by_cases hee : ee = 0
        · subst hee
          have hspec : St.laid count each (ovO ov) next h D = (.ok h', De) := by
            rw [HSP.out, andThen_ok HWR.out, andThen_ok ((barrierD_ok (by rw [HBAR.out])).trans (by rw [HBAR.out])), andThen_ok HW1.out, andThen_ok ((barrierD_ok (by rw [HBR2.out])).trans (by rw [HBR2.out]))]
            rfl
          have HSPEC := Lib.hid hspec
          clear hspec
          gi_wp2_with (refine ⟨trivial, ?_⟩; gi_at_call 97; refine (callsIn_wide.2 HB2A.out).mono ?_; rintro e wE ⟨he, hdE, htE⟩; subst he; have HTE : Hid (Turn (Gro M1 W.heap.size) W wE) := HT11.out.trans htE (fun k hk => .inl hk); have HDE : Hid (DkAt wE g De (Gro M1 W.heap.size) (Gro R1 W.heap.size)) := hdE.mono (fun k _ hk => hk.gro HT11.out.size) (fun k _ hk => hk.gro HT11.out.size); clear hdE htE HB2A)
          refine wpIn_wide.2 ?_
          refine wp_noPanic ?_
          have HSE : Hid (∀ X, Turn (Gro M1 W.heap.size) W X → X.cell? ⟨B, 0, none⟩ = some (.pointer (some ⟨b, 0, none⟩)) ∧ X.cell? ⟨B + 1, 0, none⟩ = some (.map (some mb)) ∧ X.cell? ⟨B + 1, 1, none⟩ = some (.int .i64 next) ∧ X.cell? ⟨B + 1 + 1, 0, none⟩ = some (.int .i64 h'.turn) ∧ X.cell? ⟨B + 1 + 1, 1, none⟩ = some (.int .i64 h'.half) ∧ X.cell? ⟨B + 1 + 1, 2, none⟩ = some (.int .i64 h'.size) ∧ X.cell? ⟨B + 1 + 1, 3, none⟩ = some (.int .i64 h'.sum) ∧ X.cell? ⟨B + 1 + 1, 4, none⟩ = some (.int .i64 h'.age)) := fun X hX => by
            obtain ⟨f0, f1, f2, f3, f4, f5⟩ := HKP.out X hX
            obtain ⟨p0, p1, p2, p3, p4, _⟩ := hd_cells f2
            obtain ⟨u0, u1, u2, u3, u4, u5, u6, u7, u8, u9, u10, uf⟩ := cells11 f4
            exact ⟨(wl_cells1 f0).1, by simp [World.cell?, f1], by simp [World.cell?, f1], p0, p1, p2, p3, p4⟩
          refine wp_region_held (S := (fun X => X.cell? ⟨B, 0, none⟩ = some (.pointer (some ⟨b, 0, none⟩)) ∧ X.cell? ⟨B + 1, 0, none⟩ = some (.map (some mb)) ∧ X.cell? ⟨B + 1, 1, none⟩ = some (.int .i64 next) ∧ X.cell? ⟨B + 1 + 1, 0, none⟩ = some (.int .i64 h'.turn) ∧ X.cell? ⟨B + 1 + 1, 1, none⟩ = some (.int .i64 h'.half) ∧ X.cell? ⟨B + 1 + 1, 2, none⟩ = some (.int .i64 h'.size) ∧ X.cell? ⟨B + 1 + 1, 3, none⟩ = some (.int .i64 h'.sum) ∧ X.cell? ⟨B + 1 + 1, 4, none⟩ = some (.int .i64 h'.age))) (by kernel_rfl) ?_
          have hHeld := HSE.out _ HTE.out.drew
          change wpAnyH _ _ _ _ _ _ _ _ wE.drew
          try simp only [List.size_toArray, List.length_cons, List.length_nil]
          refine wpAnyH_take (i := 0) (v := ?_) rfl (by kernel_rfl) (by kernel_rfl) (by kernel_rfl) (fun _ _ _ h => h) (Or.inl ⟨by rfl, ?_⟩) (by assumption) ?_
          rotate_left
          focus (intro w hSw; (try dsimp only at hSw); go_simp; try with_reducible rfl)
          try simp only [Act.put, List.getElem_toArray, List.getElem_cons_zero, List.getElem_cons_succ, List.setIfInBounds_toArray, List.set_cons_zero, List.set_cons_succ, Nat.zero_add]
          refine wpAnyH_take (i := 1) (v := ?_) rfl (by kernel_rfl) (by kernel_rfl) (by kernel_rfl) (fun _ _ _ h => h) (Or.inl ⟨by rfl, ?_⟩) (by assumption) ?_
          rotate_left
          focus (intro w hSw; (try dsimp only at hSw); go_simp; try with_reducible rfl)
          try simp only [Act.put, List.getElem_toArray, List.getElem_cons_zero, List.getElem_cons_succ, List.setIfInBounds_toArray, List.set_cons_zero, List.set_cons_succ, Nat.zero_add]
          refine wpAnyH_take (i := 2) (v := ?_) rfl (by kernel_rfl) (by kernel_rfl) (by kernel_rfl) (fun _ _ _ h => h) (Or.inl ⟨by rfl, ?_⟩) (by assumption) ?_
          rotate_left
          focus (intro w hSw; (try dsimp only at hSw); go_simp; try with_reducible rfl)
          try simp only [Act.put, List.getElem_toArray, List.getElem_cons_zero, List.getElem_cons_succ, List.setIfInBounds_toArray, List.set_cons_zero, List.set_cons_succ, Nat.zero_add]
          refine wpAnyH_take (i := 3) (v := ?_) rfl (by kernel_rfl) (by kernel_rfl) (by kernel_rfl) (fun _ _ _ h => h) (Or.inl ⟨by rfl, ?_⟩) (by assumption) ?_
          rotate_left
          focus (intro w hSw; (try dsimp only at hSw); go_simp; try with_reducible rfl)
          try simp only [Act.put, List.getElem_toArray, List.getElem_cons_zero, List.getElem_cons_succ, List.setIfInBounds_toArray, List.set_cons_zero, List.set_cons_succ, Nat.zero_add]
          refine wpAnyH_take (i := 4) (v := ?_) rfl (by kernel_rfl) (by kernel_rfl) (by kernel_rfl) (fun _ _ _ h => h) (Or.inl ⟨by rfl, ?_⟩) (by assumption) ?_
          rotate_left
          focus (intro w hSw; (try dsimp only at hSw); go_simp; try with_reducible rfl)
          try simp only [Act.put, List.getElem_toArray, List.getElem_cons_zero, List.getElem_cons_succ, List.setIfInBounds_toArray, List.set_cons_zero, List.set_cons_succ, Nat.zero_add]
          refine wpAnyH_take (i := 5) (v := ?_) rfl (by kernel_rfl) (by kernel_rfl) (by kernel_rfl) (fun _ _ _ h => h) (Or.inl ⟨by rfl, ?_⟩) (by assumption) ?_
          rotate_left
          focus (intro w hSw; (try dsimp only at hSw); go_simp; try with_reducible rfl)
          try simp only [Act.put, List.getElem_toArray, List.getElem_cons_zero, List.getElem_cons_succ, List.setIfInBounds_toArray, List.set_cons_zero, List.set_cons_succ, Nat.zero_add]
          refine wpAnyH_ready (rs := [6]) (by kernel_rfl) (by simp) ?_
          refine (AllReadyH.cons rfl (fun K' hK => ?_) AllReadyH.nil)
          obtain ⟨hl0, hl1, hl2, hl3, hl4, hl5, hl6, hl7⟩ := hHeld
          have HTD : Hid (Turn (Gro M1 W.heap.size) W wE.drew) := HTE.out.drew
          have HDD : Hid (DkAt wE.drew g De (Gro M1 W.heap.size) (Gro R1 W.heap.size)) := HDE.out.below (Below.refl _ _).drew
          generalize wE.drew = wD at *
          obtain ⟨f0, f1, f2, f3, f4, f5⟩ := HKP.out wD HTD.out
          obtain ⟨_, _, u2, u3, u4, u5, u6, _, _, _, _, uf⟩ := cells11 f4
          go_simp
          obtain ⟨s6b, s6c⟩ := store_hd (y0 := h'.turn) (y1 := h'.half) (y2 := h'.size) (y3 := h'.sum) (y4 := h'.age) f4
          clear u2 u3 u4 u5 u6 uf
          generalize (((((wD.setCell ⟨b, 2, none⟩ (.int .i64 h'.turn)).setCell ⟨b, 3, none⟩ (.int .i64 h'.half)).setCell ⟨b, 4, none⟩ (.int .i64 h'.size)).setCell ⟨b, 5, none⟩ (.int .i64 h'.sum)).setCell ⟨b, 6, none⟩ (.int .i64 h'.age)) = wG at s6b s6c ⊢
          have hBb : B + 4 ≤ KB ∧ b < B := ⟨HQ.out.2.2.2.1, HQ.out.2.2.2.2.1⟩
          have g0 := (s6c.block B (lt_of_block f0) (by simp; omega)).trans f0
          have g1 := (s6c.block (B + 1) (lt_of_block f1) (by simp; omega)).trans f1
          have g2 := (s6c.block (B + 1 + 1) (lt_of_block f2) (by simp; omega)).trans f2
          have HSB := Lib.hid s6b
          have HSC := Lib.hid s6c
          obtain ⟨p0, p1, p2, p3, p4, _⟩ := hd_cells g2
          obtain ⟨v0, v1, _, _, _, _, _, _, _, _, _, vf⟩ := cells11 s6b
          clear hl0 hl1 hl2 hl3 hl4 hl5 hl6 hl7 f0 f1 f2 f3 f4 f5 s6b s6c
          refine hK.out _ _ (⟨(wl_cells1 g0).1, by simp [World.cell?, g1], by simp [World.cell?, g1], p0, p1, p2, p3, p4⟩) (fun hHeld => ?_)
          clear hK K'
          try simp only [Act.put, List.getElem_toArray, List.getElem_cons_zero, List.getElem_cons_succ, List.setIfInBounds_toArray, List.set_cons_zero, List.set_cons_succ, Nat.zero_add]
          refine wpAnyH_take (i := 7) (v := ?_) rfl (by kernel_rfl) (by kernel_rfl) (by kernel_rfl) (fun _ _ _ h => h) (Or.inl ⟨by rfl, ?_⟩) (by assumption) ?_
          rotate_left
          focus (intro w hSw; (try dsimp only at hSw); go_simp; try with_reducible rfl)
          try simp only [Act.put, List.getElem_toArray, List.getElem_cons_zero, List.getElem_cons_succ, List.setIfInBounds_toArray, List.set_cons_zero, List.set_cons_succ, Nat.zero_add]
          refine wpAnyH_take (i := 8) (v := ?_) rfl (by kernel_rfl) (by kernel_rfl) (by kernel_rfl) (fun _ _ _ h => h) (Or.inl ⟨by rfl, ?_⟩) (by assumption) ?_
          rotate_left
          focus (intro w hSw; (try dsimp only at hSw); go_simp; try with_reducible rfl)
          try simp only [Act.put, List.getElem_toArray, List.getElem_cons_zero, List.getElem_cons_succ, List.setIfInBounds_toArray, List.set_cons_zero, List.set_cons_succ, Nat.zero_add]
          refine wpAnyH_ready (rs := [9]) (by kernel_rfl) (by simp) ?_
          refine (AllReadyH.cons rfl (fun K' hK => ?_) AllReadyH.nil)
          obtain ⟨s7b, s7c⟩ := store_obj (y0 := .map (some mb)) (y1 := next) HSB.out
          go_simp
          have C7 := HSC.out.then1 s7c
          clear s7c
          have hHB := HQ.out
          generalize ((wG.setCell ⟨b, 0, none⟩ (.map (some mb))).setCell ⟨b, 1, none⟩ (.int .i64 next)) = wF at s7b C7 ⊢
          have T7 : Hid (Turn (Gro M1 W.heap.size) W wD) := HTD.out
          obtain ⟨v0, v1, _, _, _, _, _, _, _, _, _, vf⟩ := cells11 s7b
          obtain ⟨f0, f1, f2, f3, f4, f5⟩ := HKP.out wD HTD.out
          have g0 := (C7.block B (lt_of_block f0) (by simp; omega)).trans f0
          have g1 := (C7.block (B + 1) (lt_of_block f1) (by simp; omega)).trans f1
          have g2 := (C7.block (B + 1 + 1) (lt_of_block f2) (by simp; omega)).trans f2
          obtain ⟨p0, p1, p2, p3, p4, _⟩ := hd_cells g2
          have HS7 := Lib.hid s7b
          have HC7 := Lib.hid C7
          clear v0 v1 vf
          refine hK.out _ _ (⟨(wl_cells1 g0).1, by simp [World.cell?, g1], by simp [World.cell?, g1], p0, p1, p2, p3, p4⟩) (fun hHeld => ?_)
          clear hK K'
          try simp only [Act.put, List.getElem_toArray, List.getElem_cons_zero, List.getElem_cons_succ, List.setIfInBounds_toArray, List.set_cons_zero, List.set_cons_succ, Nat.zero_add]
          refine wpAnyH_done (by kernel_rfl) ?_ _
          obtain ⟨hend, y0, hk9⟩ := HSUCC.out wD wF De HDD.out HTD.out HC7.out HS7.out HSPEC.out
          have g3 := (HC7.out.block _ (lt_of_block (HKP.out wD HTD.out).2.2.2.1) (by have := HQ.out; simp; omega)).trans (HKP.out wD HTD.out).2.2.2.1
          obtain ⟨s0, sf⟩ := wl_cells1 g3
          dsimp only [noPanic, Exit.then]
          apply_assumption
          clear C7 s7b
          gi_wp2
          refine ⟨by simp, .inl ⟨_, _, rfl, run_takeDeferred hk9, ?_⟩⟩
          exact ⟨.int .i64 0, by simp [results, Tryz.results68, go_sem, y0], hend⟩
        · have z1 : (ee != 0) = true := by simpa using hee
          have z2 : (ee == 0) = false := by simpa using hee
          have hspec : St.laid count each (ovO ov) next h D = (.error ee, De) := by
            rw [HSP.out, andThen_ok HWR.out, andThen_ok ((barrierD_ok (by rw [HBAR.out])).trans (by rw [HBAR.out])), andThen_ok HW1.out]
            exact andThen_no ((barrierD_no (by rw [HBR2.out]; exact hee)).trans (by rw [HBR2.out]))
          have HSPEC := Lib.hid hspec
          clear hspec hee
          gi_wp2_with (refine ⟨trivial, ?_⟩; gi_at_call 97; refine (callsIn_wide.2 HB2A.out).mono ?_; rintro e wE ⟨he, hdE, htE⟩; subst he; have HTE : Hid (Turn (Gro M1 W.heap.size) W wE) := HT11.out.trans htE (fun k hk => .inl hk); have HDE : Hid (DkAt wE g De (Gro M1 W.heap.size) (Gro R1 W.heap.size)) := hdE.mono (fun k _ hk => hk.gro HT11.out.size) (fun k _ hk => hk.gro HT11.out.size); obtain ⟨_, _, _, g3, _⟩ := HKP.out wE HTE.out; obtain ⟨s0, sf⟩ := wl_cells1 g3; clear hdE htE HB2A g3)
          obtain ⟨hend, y0, hk9⟩ := HFAIL.out wE De ee HDE.out HTE.out HSPEC.out
          refine ⟨by simp, .inl ⟨_, _, rfl, run_takeDeferred hk9, ?_⟩⟩
          exact ⟨.int .i64 ee, by simp [results, Tryz.results68, go_sem, y0], hend⟩
      · have z1 : (we != 0) = true := by simpa using hwe
        have z2 : (we == 0) = false := by simpa using hwe
        have hspec : St.laid count each (ovO ov) next h D = (.error we, Dl) := by
          rw [HSP.out, andThen_ok HWR.out, andThen_ok ((barrierD_ok (by rw [HBAR.out])).trans (by rw [HBAR.out]))]
          exact andThen_no ((writeD_no (by rw [HWRT.out]; exact hwe)).trans (by rw [HWRT.out]))
        have HSPEC := Lib.hid hspec
        clear hspec hwe
        gi_wp2
        obtain ⟨hend, y0, hk9⟩ := HFAIL.out w11 Dl we HD11.out HT11.out HSPEC.out
        refine ⟨by simp, .inl ⟨_, _, rfl, run_takeDeferred hk9, ?_⟩⟩
        exact ⟨.int .i64 we, by simp [results, Tryz.results68, go_sem, y0], hend⟩
    · have z1 : (be != 0) = true := by simpa using hbe
      have z2 : (be == 0) = false := by simpa using hbe
      have hspec : St.laid count each (ovO ov) next h D = (.error be, Db) := by
        unfold St.laid
        rw [HIMG.out, HFB.out, HSPOS.out, andThen_ok HWR.out]
        exact andThen_no (by rw [barrierD_no (by rw [HBAR.out]; exact hbe), HBAR.out])
      have HSPEC := Lib.hid hspec
      clear hspec hbe
      gi_wp2_with (refine ⟨trivial, ?_⟩; gi_at_call 97; refine (callsIn_wide.2 HBA.out).mono ?_; rintro e wA ⟨he, hdA, htA⟩; subst he; have HDA := Lib.hid hdA; have HTA : Hid (Turn (Gro M1 W.heap.size) W wA) := htA.mono (fun k hk => .inl hk); obtain ⟨_, _, _, g3, _⟩ := HKP.out wA HTA.out; obtain ⟨s0, sf⟩ := wl_cells1 g3; clear hdA htA HBA g3)
      obtain ⟨hend, y0, hk9⟩ := HFAIL.out wA Db be HDA.out HTA.out HSPEC.out
      refine ⟨by simp, .inl ⟨_, _, rfl, run_takeDeferred hk9, ?_⟩⟩
      exact ⟨.int .i64 be, by simp [results, Tryz.results68, go_sem, y0], hend⟩
  case body =>
    rintro l pre x a' W hl ⟨r, hr⟩ hI rfl hlt
    obtain ⟨Dk, hwr, hdk, htk, hkb⟩ := hI
    have HWR := Lib.hid hwr
    have HDK := Lib.hid hdk
    have HTK := Lib.hid htk
    have HKB := Lib.hid hkb
    have HDC := Lib.hid hdk.cells
    have HLL := Lib.hid hl
    have HX := x.2
    obtain ⟨a6, ec, hcb⟩ := chunkV_form (BytesIn.row (HROW.out W (htk.mono (fun k hk => by rcases hk with hk | hk; exact .inl hk; exact .inr (.inl hk))))) 512 x.1 (by omega)
    obtain ⟨m, hm'⟩ : ∃ m, min 512 (fb.length - x.1 * 512) = m := ⟨_, rfl⟩
    rw [hm'] at ec hcb
    rw [ec]
    have HCB := Lib.hid hcb
    have hcl2 : ((fb.drop (x.1 * 512)).take 512).length = m := by rw [List.length_take, List.length_drop, hm']
    have HCL := Lib.hid hcl2
    have HM512 : Hid (m ≤ 512) := by show _ ≤ _; omega
    obtain ⟨k0, kf⟩ := wl_cells1 hkb
    rw [List.length_map] at k0
    have HPLE : Hid (pre.length < (fb.length + 512 - 1) / 512 ∧ pre.length ≤ 100000) := ⟨hlt, by omega⟩
    obtain ⟨nx, hnx⟩ : ∃ nx, pos + pre.length = nx := ⟨_, rfl⟩
    have HNX := Lib.hid hnx
    have HWW : Hid (Dk.waits.length ≤ D.waits.length + pre.length ∧ Dk.last.length = D.last.length) := by have h0 := writesD_waits _ _ _ _ HWR.out; rw [List.length_map, List.length_map] at h0; exact h0
    have HWT : Hid (Dk.waits.length ≤ 1000000) := by show _ ≤ _; have := HWW.out.1; have := HW.out; have := HPLE.out; omega
    have hnk : ∀ k, k < W6.heap.size → ¬ M k → k ≠ KB → W.heap[k]? = W6.heap[k]? := fun k h1 h2 h3 => htk.block k h1 (fun e => by rcases e with e | e; exact h2 e; exact h3 e)
    have hBn : ¬ M B := fun e => by have := HMB'.out B e; omega
    have hBW : W.heap[B]? = some (.cells #[.pointer (some ⟨b, 0, none⟩)] 24 (0, 0)) := (hnk B (by omega) hBn (by omega)).trans HX6.out.1
    have hbW : W.heap[b]? = some (storeO mv0 nx0 hd0 g lv (fr : Int) (each : Int)) := (hnk b (by omega) HMB.out (by omega)).trans HX6.out.2.2.2.2
    have HBW := Lib.hid hBW
    have HbW := Lib.hid hbW
    have hss : ∀ X, Below W.heap.size W X → X.cell? ⟨B, 0, none⟩ = some (.pointer (some ⟨b, 0, none⟩)) ∧ X.cell? ⟨b, 7, none⟩ = some (.pointer (some ⟨g, 0, none⟩)) ∧ X.cell? ⟨KB, 0, none⟩ = some (.int .i64 (nx : Int)) := fun X hX => by
      have e3 := (wl_cells1 ((hX.block _ (lt_of_block HKB.out)).trans HKB.out)).1
      rw [List.length_map, HNX.out] at e3
      exact ⟨(wl_cells1 ((hX.block _ (lt_of_block HBW.out)).trans HBW.out)).1, (cells11 ((hX.block _ (lt_of_block HbW.out)).trans HbW.out)).2.2.2.2.2.2.2.1, e3⟩
    have HSS := Lib.hid hss
    obtain ⟨⟨Dw, xe⟩, hwr2⟩ : ∃ y, Dk.write (nx : Int) ((fb.drop (x.1 * 512)).take 512) = y := ⟨_, rfl⟩
    have HWR2 := Lib.hid hwr2
    clear hwr hdk htk hkb hcb hcl2 hnk hBn hBW hbW hss hwr2 k0 kf hnx
    gi_wp2
    refine held_round (S := (fun X => X.cell? ⟨B, 0, none⟩ = some (.pointer (some ⟨b, 0, none⟩)) ∧ X.cell? ⟨b, 7, none⟩ = some (.pointer (some ⟨g, 0, none⟩)) ∧ X.cell? ⟨KB, 0, none⟩ = some (.int .i64 (nx : Int)))) (by kernel_rfl) (by kernel_rfl) ?lets ?_ (fun hHeld => ?_)
    case lets => (rintro ⟨_, _, h⟩; exact h)
    focus exact HSS.out _ (Below.refl _ _).drew
    try simp only [List.size_toArray, List.length_cons, List.length_nil]
    refine wpAnyH_take (i := 0) (v := ?_) rfl (by kernel_rfl) (by kernel_rfl) (by kernel_rfl) (fun _ _ _ h => h) (Or.inl ⟨by rfl, ?_⟩) (by assumption) ?_
    rotate_left
    focus (intro w hSw; (try dsimp only at hSw); go_simp; try with_reducible rfl)
    try simp only [Act.put, List.getElem_toArray, List.getElem_cons_zero, List.getElem_cons_succ, List.setIfInBounds_toArray, List.set_cons_zero, List.set_cons_succ, Nat.zero_add]
    refine wpAnyH_take (i := 1) (v := ?_) rfl (by kernel_rfl) (by kernel_rfl) (by kernel_rfl) (fun _ _ _ h => h) (Or.inl ⟨by rfl, ?_⟩) (by assumption) ?_
    rotate_left
    focus (intro w hSw; (try dsimp only at hSw); go_simp; try with_reducible rfl)
    try simp only [Act.put, List.getElem_toArray, List.getElem_cons_zero, List.getElem_cons_succ, List.setIfInBounds_toArray, List.set_cons_zero, List.set_cons_succ, Nat.zero_add]
    refine wpAnyH_take (i := 2) (v := ?_) rfl (by kernel_rfl) (by kernel_rfl) (by kernel_rfl) (fun _ _ _ h => h) (Or.inl ⟨by rfl, ?_⟩) (by assumption) ?_
    rotate_left
    focus (intro w hSw; (try dsimp only at hSw); go_simp; try with_reducible rfl)
    try simp only [Act.put, List.getElem_toArray, List.getElem_cons_zero, List.getElem_cons_succ, List.setIfInBounds_toArray, List.set_cons_zero, List.set_cons_succ, Nat.zero_add]
    refine wpAnyH_take (i := 3) (v := ?_) rfl (by kernel_rfl) (by kernel_rfl) (by kernel_rfl) (fun _ _ _ h => h) (Or.inl ⟨by rfl, ?_⟩) (by assumption) ?_
    rotate_left
    focus (intro w hSw; (try dsimp only at hSw); go_simp; try with_reducible rfl)
    try simp only [Act.put, List.getElem_toArray, List.getElem_cons_zero, List.getElem_cons_succ, List.setIfInBounds_toArray, List.set_cons_zero, List.set_cons_succ, Nat.zero_add]
    refine wpAnyH_take (i := 4) (v := ?_) rfl (by kernel_rfl) (by kernel_rfl) (by kernel_rfl) (fun _ _ _ h => h) (Or.inl ⟨by rfl, ?_⟩) (by assumption) ?_
    rotate_left
    focus (intro w hSw; (try dsimp only at hSw); go_simp; try with_reducible rfl)
    try simp only [Act.put, List.getElem_toArray, List.getElem_cons_zero, List.getElem_cons_succ, List.setIfInBounds_toArray, List.set_cons_zero, List.set_cons_succ, Nat.zero_add]
    refine wpAnyH_take (i := 5) (v := ?_) rfl (by kernel_rfl) (by kernel_rfl) (by kernel_rfl) (fun _ _ _ h => h) (Or.inl ⟨by rfl, ?_⟩) (by assumption) ?_
    rotate_left
    focus (intro w hSw; (try dsimp only at hSw); go_simp; try with_reducible rfl)
    try simp only [Act.put, List.getElem_toArray, List.getElem_cons_zero, List.getElem_cons_succ, List.setIfInBounds_toArray, List.set_cons_zero, List.set_cons_succ, Nat.zero_add]
    refine wpAnyH_ready (rs := [6]) (by kernel_rfl) (by simp) ?_
    refine (AllReadyH.cons rfl (fun K' hK => ?_) AllReadyH.nil)
    refine step_callw (by rfl) 67 #[.pointer (some ⟨g, 0, none⟩), .int .i64 (nx : Int), .slice a6 m m] ?_ (dkWriteM_any (HDC.out.below (Below.refl _ _).drew) (nx : Int) (WalkArith.wf_i64 (by have := HPLE.out; have := HPOS.out; have := HNX.out; omega)) _ ((fb.drop (x.1 * 512)).take 512) (HCB.out.below (Below.refl _ _).drew) (by rw [HCL.out]; omega) HWT.out) ?_
    go_simp
    rintro e w7 ⟨he, hd7, ht7⟩
    rw [HWR2.out] at he hd7
    dsimp only at he hd7
    subst he
    refine ⟨.int .i64 xe, rfl, ?_⟩
    have nk7 : ∀ k, k < W.heap.size → ¬ (Gro M W6.heap.size k ∧ (k = gm ∨ IsCells W k)) → w7.heap[k]? = W.heap[k]? := fun k h1 h2 => ht7.block k h1 h2
    have hgr : ∀ k, k < W6.heap.size → ¬ M k → ¬ (Gro M W6.heap.size k ∧ (k = gm ∨ IsCells W k)) := fun k h1 h2 h => by rcases h.1 with h | h; exact h2 h; omega
    have hW6 : W6.heap.size ≤ W.heap.size := HTK.out.size
    have hB7 : w7.heap[B]? = some (.cells #[.pointer (some ⟨b, 0, none⟩)] 24 (0, 0)) := (nk7 B (by omega) (hgr B (by omega) (fun e => by have := HMB'.out B e; omega))).trans HBW.out
    have hb7 : w7.heap[b]? = some (storeO mv0 nx0 hd0 g lv (fr : Int) (each : Int)) := (nk7 b (by omega) (hgr b (by omega) HMB.out)).trans HbW.out
    have hk7 : w7.heap[KB]? = some (.cells #[.int .i64 (nx : Int)] 3 (0, 0)) := by
      have e3 := HKB.out
      rw [List.length_map, HNX.out] at e3
      exact (nk7 KB (by omega) (hgr KB (by omega) (fun e => by have := HMB'.out KB e; omega))).trans e3
    have hE7 : w7.heap[B + 1 + 1 + 1]? = some (.cells #[.int .i64 0] 29 (0, 0)) := (nk7 (B + 3) (by omega) (hgr (B + 3) (by omega) (fun e => by have := HMB'.out _ e; omega))).trans ((HTK.out.block (B + 3) (by omega) (fun e => by rcases e with e | e; have := HMB'.out _ e; omega; omega)).trans HX6.out.2.2.2.1)
    have HNK7 := Lib.hid nk7
    have HGR := Lib.hid hgr
    have HE7 := Lib.hid hE7
    have HD7 := Lib.hid hd7
    have HT7 : Hid (Turn (fun k => Gro M W6.heap.size k ∧ (k = gm ∨ IsCells W k)) W w7) := ⟨ht7.os, ht7.tape, ht7.output, ht7.size, ht7.block⟩
    have HK7 := Lib.hid hk7
    obtain ⟨q0, qf⟩ := wl_cells1 hk7
    obtain ⟨r0, rf⟩ := wl_cells1 hE7
    refine hK.out _ _ (⟨(wl_cells1 hB7).1, (cells11 hb7).2.2.2.2.2.2.2.1, (wl_cells1 hk7).1⟩) (fun hHeld => ?_)
    clear hK K'
    try simp only [Act.put, List.getElem_toArray, List.getElem_cons_zero, List.getElem_cons_succ, List.setIfInBounds_toArray, List.set_cons_zero, List.set_cons_succ, Nat.zero_add]
    refine wpAnyH_take (i := 7) (v := ?_) rfl (by kernel_rfl) (by kernel_rfl) (by kernel_rfl) (fun _ _ _ h => h) (Or.inl ⟨by rfl, ?_⟩) (by assumption) ?_
    rotate_left
    focus (intro w hSw; (try dsimp only at hSw); go_simp; try with_reducible rfl)
    try simp only [Act.put, List.getElem_toArray, List.getElem_cons_zero, List.getElem_cons_succ, List.setIfInBounds_toArray, List.set_cons_zero, List.set_cons_succ, Nat.zero_add]
    refine wpAnyH_done (by kernel_rfl) ?_ _
    clear hd7 ht7 nk7 hgr hW6 hB7 hb7 hk7 hE7
    have HW6 : Hid (W6.heap.size ≤ W.heap.size ∧ W.heap.size ≤ w7.heap.size) := ⟨HTK.out.size, HT7.out.size⟩
    have hpw : IntKind.i64.wrap ((nx : Int) + 1) = (nx : Int) + 1 := by rw [IntKind.wrap_i64]; have := HPLE.out; have := HPOS.out.1; have := HNX.out; omega
    have T67 : Hid (Turn (fun k => M k ∨ k = KB) W6 w7) := HTK.out.trans HT7.out (fun k hk => by rcases hk.1 with h | h; exact .inl (.inl h); exact .inr h)
    by_cases hz : xe = 0
    · subst hz
      gi_wp2
      have c8 : Chg [KB] w7 (w7.setCell ⟨KB, 0, none⟩ (.int .i64 ((nx : Int) + 1))) := chg_set _ _ _ _
      have hx8 : (w7.setCell ⟨KB, 0, none⟩ (.int .i64 ((nx : Int) + 1))).heap[KB]? = some (.cells #[.int .i64 ((nx : Int) + 1)] 3 (0, 0)) := (dk_set HK7.out).trans rfl
      generalize w7.setCell ⟨KB, 0, none⟩ (.int .i64 ((nx : Int) + 1)) = w8 at c8 hx8 ⊢
      have t8 : Turn (fun k => k = KB) w7 w8 := Turn.of_chg c8 (fun k hk => .inl (by simpa using hk))
      have hq := HQ.out
      have hw6 := HW6.out
      have hgm := HGM.out
      have hnM : ¬ M (KB) := fun e => by have := HMB'.out _ e; omega
      have hnR : ¬ R (KB) := fun e => by have := HRB'.out _ e; omega
      have nk8 : ∀ k, k ≠ KB → k < W.heap.size → ¬ (Gro M W6.heap.size k ∧ (k = gm ∨ IsCells W k)) → w8.heap[k]? = W.heap[k]? := fun k h1 h2 h3 => (c8.block k (by omega) (by simpa using h1)).trans (HNK7.out k h2 h3)
      have hd8 : DkAtM w8 g gm Dw (Gro M W6.heap.size) (Gro R W6.heap.size) := (HD7.out.mono (fun k _ hk => by rcases hk with hk | hk; exact hk.1; exact .inr (Nat.le_trans hw6.1 hk)) (fun k _ hk => by rcases hk with hk | hk; exact hk.1; exact .inr (Nat.le_trans hw6.1 hk))).turn t8 (fun k hk e => by rcases hk with hk | hk; exact hnM (e ▸ hk); omega) (fun k hk e => by rcases hk with hk | hk; exact hnR (e ▸ hk); omega)
      have hkeep : KeepsFrom W6.heap.size W w8 := ⟨by have := c8.size; omega, fun k o hk ho hcl => (nk8 k (by omega) (lt_of_block ho) (fun h => by
        rcases h.2 with h | ⟨c, t, fz, hh⟩
        · omega
        · rw [ho] at hh; cases hh; cases hcl)).trans ho⟩
      have hkp : KpC w5.heap.size (w5.heap.size + 1) W w8 := ⟨nk8 _ (by omega) (by omega) (fun h => by rcases h.1 with h | h; have := HMB'.out _ h; omega; omega), nk8 _ (by omega) (by omega) (fun h => by rcases h.1 with h | h; have := HMB'.out _ h; omega; omega)⟩
      refine ⟨hkeep, hkp, Dw, ?_, hd8, T67.out.trans t8 (fun k hk => .inl (.inr hk)), ?_⟩
      · rw [List.map_append, List.map_append]
        have e := writesD_snoc ((fb.drop (x.1 * 512)).take 512) _ _ _ _ HWR.out
        rw [List.length_map, List.length_map, show (pos : Int) + (pre.length : Int) = (nx : Int) by rw [← HNX.out]; push_cast; rfl] at e
        exact e.trans ((writeD_ok (by rw [HWR2.out])).trans (by rw [HWR2.out]))
      · rw [hx8, List.map_append, List.length_append, List.length_map, show ((nx : Int) + 1) = ((pos + (pre.length + (List.map Subtype.val [x]).length) : Nat) : Int) by rw [← HNX.out]; simp; omega]
    · have z1 : (xe != 0) = true := by simpa using hz
      have z2 : (xe == 0) = false := by simpa using hz
      have HZ := Lib.hid hz
      clear hz
      gi_wp2
      have c8 : Chg [B + 1 + 1 + 1] w7 (w7.setCell ⟨B + 1 + 1 + 1, 0, none⟩ (.int .i64 xe)) := chg_set _ _ _ _
      have hx8 : (w7.setCell ⟨B + 1 + 1 + 1, 0, none⟩ (.int .i64 xe)).heap[B + 1 + 1 + 1]? = some (.cells #[.int .i64 xe] 29 (0, 0)) := (dk_set HE7.out).trans rfl
      generalize w7.setCell ⟨B + 1 + 1 + 1, 0, none⟩ (.int .i64 xe) = w8 at c8 hx8 ⊢
      have t8 : Turn (fun k => k = B + 1 + 1 + 1) w7 w8 := Turn.of_chg c8 (fun k hk => .inl (by simpa using hk))
      have hq := HQ.out
      have hw6 := HW6.out
      have hgm := HGM.out
      have hnM : ¬ M (B + 1 + 1 + 1) := fun e => by have := HMB'.out _ e; omega
      have hnR : ¬ R (B + 1 + 1 + 1) := fun e => by have := HRB'.out _ e; omega
      have nk8 : ∀ k, k ≠ B + 1 + 1 + 1 → k < W.heap.size → ¬ (Gro M W6.heap.size k ∧ (k = gm ∨ IsCells W k)) → w8.heap[k]? = W.heap[k]? := fun k h1 h2 h3 => (c8.block k (by omega) (by simpa using h1)).trans (HNK7.out k h2 h3)
      have hd8 : DkAtM w8 g gm Dw (Gro M W6.heap.size) (Gro R W6.heap.size) := (HD7.out.mono (fun k _ hk => by rcases hk with hk | hk; exact hk.1; exact .inr (Nat.le_trans hw6.1 hk)) (fun k _ hk => by rcases hk with hk | hk; exact hk.1; exact .inr (Nat.le_trans hw6.1 hk))).turn t8 (fun k hk e => by rcases hk with hk | hk; exact hnM (e ▸ hk); omega) (fun k hk e => by rcases hk with hk | hk; exact hnR (e ▸ hk); omega)
      have hkeep : KeepsFrom W6.heap.size W w8 := ⟨by have := c8.size; omega, fun k o hk ho hcl => (nk8 k (by omega) (lt_of_block ho) (fun h => by
        rcases h.2 with h | ⟨c, t, fz, hh⟩
        · omega
        · rw [ho] at hh; cases hh; cases hcl)).trans ho⟩
      have hkp : KpC w5.heap.size (w5.heap.size + 1) W w8 := ⟨nk8 _ (by omega) (by omega) (fun h => by rcases h.1 with h | h; have := HMB'.out _ h; omega; omega), nk8 _ (by omega) (by omega) (fun h => by rcases h.1 with h | h; have := HMB'.out _ h; omega; omega)⟩
      refine ⟨hkeep, rfl, pre.map Subtype.val, x.1, Dk, Dw, xe, by rw [List.map_append]; rfl, HZ.out, HWR.out, ?_, hd8, (T67.out.mono (fun k hk => by rcases hk with h | h; exact .inl h; exact .inr (.inl h))).trans t8 (fun k hk => .inl (.inr (.inr hk))), hx8⟩
      rw [List.length_map, HNX.out]
      exact (writeD_no (by rw [HWR2.out]; exact HZ.out)).trans (by rw [HWR2.out])
end Go.Proofs.YtcpgbekcbaelpaaGreatDoor
/- Layer 7: Format. -/
namespace Go.Proofs.YtcpgbekcbaelpaaGreatDoor
open Go.RowKit Go.Shelf Go.Maps Wr
set_option linter.unusedVariables false
set_option linter.unusedSimpArgs false
theorem size_alloc (w : World) (o : Obj) : (w.alloc o).heap.size = w.heap.size + 1 := by simp
theorem andThen_inv {α β : Type} {m : St.DM α} {f : α → St.DM β} {d d' : St.Dk} {b : β} (h : (m.andThen f) d = (.ok b, d')) : ∃ a d1, m d = (.ok a, d1) ∧ f a d1 = (.ok b, d') := by
  unfold St.DM.andThen at h
  rcases hm : m d with ⟨x, d1⟩
  rw [hm] at h
  cases x with
  | ok a => exact ⟨a, d1, rfl, h⟩
  | error e => cases h
theorem barrierD_inv {d d' : St.Dk} {u : Unit} (h : St.barrierD d = (.ok u, d')) : d.barrier = (d', 0) := by
  unfold St.barrierD at h
  split at h
  · rename_i h0
    have h1 := congrArg Prod.snd h
    exact Prod.ext h1 h0
  · cases h
theorem writeD_inv {i : Int} {b : List UInt8} {d d' : St.Dk} {u : Unit} (h : St.writeD i b d = (.ok u, d')) : d.write i b = (d', 0) := by
  unfold St.writeD at h
  split at h
  · rename_i h0
    have h1 := congrArg Prod.snd h
    exact Prod.ext h1 h0
  · cases h
theorem logFormat_waits {first count : Nat} {d d' : St.Dk} (h : St.logFormat first count d = (.ok (), d')) : d'.waits.length ≤ d.waits.length + count + 1 := by
  unfold St.logFormat at h
  obtain ⟨_, d1, h1, h⟩ := andThen_inv h
  obtain ⟨_, d2, h2, h⟩ := andThen_inv h
  obtain ⟨_, d3, h3, h⟩ := andThen_inv h
  have e1 := (writesD_waits _ _ _ _ h1).1
  have e2 := (barrier_waits d1).1
  have e3 := write_waits d2 ((first : Nat) : Int) (St.pad (St.logHead 1))
  have e4 := (barrier_waits d3).1
  rw [barrierD_inv h2] at e2
  rw [writeD_inv h3] at e3
  rw [barrierD_inv h] at e4
  simp at e1
  dsimp only at e2 e3 e4
  omega
theorem format_inv {count each : Nat} {D D' : St.Dk} (h : St.format count each D = (.ok (), D')) : ∃ D1 D2 h', St.logFormat 2 count D = (.ok (), D1) ∧ D1.write 1 (St.zeros 512) = (D2, 0) ∧ St.laid count each [] 1 ⟨1, 0, 0, 0, 1⟩ D2 = (.ok h', D') := by
  unfold St.format at h
  obtain ⟨_, d1, h1, h⟩ := andThen_inv h
  obtain ⟨_, d2, h2, h⟩ := andThen_inv h
  obtain ⟨h', d3, h3, h⟩ := andThen_inv h
  cases h
  exact ⟨d1, d2, h', h1, writeD_inv h2, h3⟩
set_option maxRecDepth 100000 in
set_option maxHeartbeats 4000000 in
theorem format_any {w : World} {g : Nat} {D D' : St.Dk} {E : Nat → Prop} {log : Int} {count each : Nat} (h : DkAt w g D E E) (hEh : ¬ E 0) (hT : Half w) (hw : D.waits.length ≤ 50000) (hlay : St.layT D.last.length log = some (count, each)) (he : each ≤ 1000) (hc : count ≤ 1000) (hok : St.format count each D = (.ok (), D')) :
    Calls Tryz.prog 23 #[.pointer (some ⟨g, 0, none⟩), .int .i64 log] w fun e w' => e = .returned (.int .i64 0) ∧ Turn E w w' ∧ DkAt w' g D' (Gro E w.heap.size) (Gro E w.heap.size) := by
  obtain ⟨D1, D2, h', k1, k2, k3⟩ := format_inv hok
  obtain ⟨p1, p2, rfl, p4⟩ := lay_pos hlay
  dsimp only at p1 p2 p4
  have hw1 := logFormat_waits k1
  have hw2 := write_waits D1 1 (St.zeros 512)
  rw [k2] at hw2
  dsimp only at hw2
  have HLAY := Lib.hid (lay_any h (count : Int) (by omega))
  rw [hlay] at HLAY
  have HCL := Lib.hid h.clip
  have HT := Lib.hid hT
  have HHL := Lib.hid hT.lt
  have HEH := Lib.hid hEh
  have K1 := Lib.hid k1
  have K2 := Lib.hid k2
  have K3 := Lib.hid k3
  have HP := Lib.hid p4
  have HP1 := Lib.hid p1
  have HW : Hid (D.waits.length ≤ 50000 ∧ D1.waits.length ≤ 60000 ∧ D2.waits.length ≤ 60001) := ⟨hw, by omega, by omega⟩
  have HCE : Hid (each ≤ 1000 ∧ count ≤ 1000) := ⟨he, hc⟩
  have HG2 := Lib.hid p2
  clear h hEh hT hw hlay he hc hok k1 k2 k3 p1 p2 p4 hw1 hw2
  have hmm := @run_makeMap Tryz.prog
  have hmk : ∀ W, (Instr.makeSlice 44 (.int .i64 512) (.int .i64 512)).run Tryz.prog W = _ := fun W => run_mk_bytes 512 (by omega) W
  go_enter Tryz.func23, Tryz.ntmps23
  go_wp2_with (first
    | (go_at_call 49; refine HLAY.out.mono ?_; rintro e w1 ⟨hb1, b, rfl, hbz, hblk⟩; dsimp only at hblk; have HB1 := Lib.hid hb1; have HBZ := Lib.hid hbz; have HBK := Lib.hid hblk; clear hb1 hbz hblk)
    | (go_at_call 66; go_loud (have hq := walFormat_any (HCL.out.below HB1.out) (fun h => HEH.out h.1) (HT.out.below HB1.out) 2 count HP1.out (by have := HP.out; omega) (by have := HW.out; omega); rw [K1.out] at hq; refine hq.mono ?_; rintro e w2 ⟨rfl, hd2, ht2⟩; have HD2 : Hid (DkAt w2 g D1 (Gro (Clip E w) w1.heap.size) (Gro (Clip E w) w1.heap.size)) := hd2; have HT2 := Lib.hid ht2; clear hd2 ht2 hq))
    | (go_at_call 67; go_loud (have hq := dkWrite_any (HD2.out.below ((Below.refl _ _).alloc (Nat.le_refl _) _)) 1 (by rfl) _ (St.zeros 512) (BytesIn.row (mk_row w2 512 (by omega))) (by simp [St.zeros]) (by have := HW.out; omega); rw [K2.out] at hq; refine hq.mono ?_; rintro e w3 ⟨rfl, hd3, ht3⟩; have HD3 : Hid (DkAt w3 g D2 (Gro (Gro (Clip E w) w1.heap.size) (w2.heap.size + 1)) (Gro (Gro (Clip E w) w1.heap.size) (w2.heap.size + 1))) := Lib.hid (by simpa using hd3); have HT3 := Lib.hid ht3; clear hd3 ht3 hq))
    | (go_at_call 68; go_loud (
        have hz1 := HB1.out.size
        have hz2 := HT2.out.size
        have hz3 := HT3.out.size
        have hbz := HBZ.out
        have hb1 := lt_of_block HBK.out
        rw [size_alloc] at hz3
        have hbE : ¬ Gro (Clip E w) w1.heap.size b := fun h => by
          rcases h with h | h
          · have := h.2; omega
          · omega
        have hM3 : ¬ Clip (Gro (Gro (Clip E w) w1.heap.size) (w2.heap.size + 1)) w3 b := fun h => by
          rcases h.1 with h | h
          · exact hbE h
          · omega
        have hblk2 := (HT2.out.block b hb1 (fun h => by have := h.2; omega)).trans HBK.out
        have hblk3 := (HT3.out.block b (by rw [size_alloc]; omega) hbE).trans (blk_alloc hblk2 _)
        have hG1 : ¬ Gro (Clip E w) w1.heap.size 0 := fun h => by
          rcases h with h | h
          · exact HEH.out h.1
          · have := HHL.out; omega
        have hG3 : ¬ Clip (Gro (Gro (Clip E w) w1.heap.size) (w2.heap.size + 1)) w3 0 := fun h => by
          rcases h.1 with h | h
          · exact hG1 h
          · have := HHL.out; omega
        have hT3 : Half w3 := (((HT.out.below HB1.out).turn HT2.out (fun h => HEH.out h.1)).below ((Below.refl _ _).alloc (Nat.le_refl _) _)).turn HT3.out hG1
        have ha := (Below.refl w3.heap.size w3).alloc (Nat.le_refl _) (.map #[] 0)
        have hq : Calls Tryz.prog 68 #[.pointer (some ⟨b, 0, none⟩), .agg #[.map (some w3.heap.size), .int .i64 1], hdV ⟨1, 0, 0, 0, 1⟩] (w3.alloc (.map #[] 0)) (LaidEnd (w3.alloc (.map #[] 0)) b g (.map none) 0 St.noHd (.pointer none) ((2 + count : Nat) : Int) (each : Int) w3.heap.size 1 (Clip (Gro (Gro (Clip E w) w1.heap.size) (w2.heap.size + 1)) w3) (Clip (Gro (Gro (Clip E w) w1.heap.size) (w2.heap.size + 1)) w3) (St.laid count each [] 1 ⟨1, 0, 0, 0, 1⟩ D2)) :=
          laid_any (A := fun _ => False) (ov := []) (HD3.out.clip.below ha) ((ha.block b (lt_of_block hblk3)).trans hblk3) (fun k hk => by have := hk.2; simp; omega) (fun k hk => by have := hk.2; simp; omega) hM3 hM3 hG3 (hT3.below ha) (by have := HHL.out; omega) (OMap.made w3) (fun _ h => nomatch h) (by omega) (fun _ h => nomatch h) (by show (St.image [] 1).length ≤ _; rw [St.image0_len]; omega) (by simp) HCE.out.2 HCE.out.1 (by have := HW.out; omega)
        rw [K3.out] at hq
        refine hq.mono ?_
        rintro e w4 ⟨rfl, hd4, ht4, _⟩
        have HD4 := Lib.hid hd4
        have HT4 := Lib.hid ht4
        have HQ : Hid (w.heap.size ≤ w1.heap.size ∧ w1.heap.size ≤ w2.heap.size ∧ w2.heap.size + 1 ≤ w3.heap.size ∧ w.heap.size ≤ b) := ⟨hz1, hz2, hz3, hbz⟩
        clear hd4 ht4 hq hz1 hz2 hz3 hbz hb1 hbE hM3 hblk2 hblk3 hG1 hG3 hT3 ha)))
  go_ret
  have hq := HQ.out
  have h4 := HT4.out.size
  rw [size_alloc] at h4
  refine ⟨rfl, ?_, ?_⟩
  · have t2 : Turn E w w2 := (Turn.of_below HB1.out).trans HT2.out (fun i h => .inl h.1)
    have t3 : Turn E w w3 := (t2.thenBelow ((Below.refl _ _).alloc (Nat.le_refl _) _)).trans HT3.out (fun i h => by
      rcases h with h | h
      · exact .inl h.1
      · exact .inr (by omega))
    refine (t3.thenBelow ((Below.refl _ _).alloc (Nat.le_refl _) _)).trans HT4.out (fun i h => ?_)
    rcases h with h | h
    · rcases h.1 with h | h
      · rcases h with h | h
        · exact .inl h.1
        · exact .inr (by omega)
      · exact .inr (by omega)
    · exact .inr (by omega)
  · refine HD4.out.mono ?_ ?_ <;>
    · intro k _ hk
      rcases hk with hk | hk
      · rcases hk.1 with hk | hk
        · rcases hk with hk | hk
          · exact .inl hk.1
          · exact .inr (by omega)
        · exact .inr (by omega)
      · simp at hk
        exact .inr (by omega)
end Go.Proofs.YtcpgbekcbaelpaaGreatDoor
/- Layer 7: changes in memory; are all numbers numbers of objects? -/
namespace Go.Proofs.YtcpgbekcbaelpaaGreatDoor
open Go.RowKit Go.Shelf Go.Maps Wr
set_option linter.unusedVariables false
set_option linter.unusedSimpArgs false
attribute [local go_sem] Oper.semAt_some
abbrev CG := Int × VT × Bool
def ChCells (w : World) (P : Nat → Prop) (b off j : Nat) (c : CG) : Prop := ∃ x0 x1 x2 x3, w.cell? ⟨b, off + j * 6, none⟩ = some (.int .i64 c.1) ∧ w.cell? ⟨b, off + j * 6 + 1, none⟩ = some x0 ∧ w.cell? ⟨b, off + j * 6 + 2, none⟩ = some x1 ∧ w.cell? ⟨b, off + j * 6 + 3, none⟩ = some x2 ∧ w.cell? ⟨b, off + j * 6 + 4, none⟩ = some x3 ∧ w.cell? ⟨b, off + j * 6 + 5, none⟩ = some (.bool c.2.2) ∧ ValIs w P c.2.1 (.agg #[x0, x1, x2, x3]) ∧ (Lit.int .i64 c.1).wf = true
def ChsAt (w : World) (P : Nat → Prop) (v : Value) (cs : List CG) : Prop :=
  ∃ ao cap, v = .slice ao cs.length cap ∧ cs.length ≤ cap ∧ cap ≤ maxLen ∧ (ao = none → cap = 0) ∧ ∀ (j : Nat) c, cs[j]? = some c → ∃ b off, ao = some ⟨b, off, none⟩ ∧ P b ∧ ChCells w P b off j c
theorem ChCells.keep {w w' : World} {P Q : Nat → Prop} (hPQ : ∀ b, P b → Q b) (hc : ∀ p : Addr, P p.block → w'.cell? p = w.cell? p) {b off j : Nat} {c : CG} (hb : P b) (h : ChCells w P b off j c) : ChCells w' Q b off j c := by
  obtain ⟨x0, x1, x2, x3, h0, h1, h2, h3, h4, h5, h6, h7⟩ := h
  exact ⟨x0, x1, x2, x3, (hc _ hb).trans h0, (hc _ hb).trans h1, (hc _ hb).trans h2, (hc _ hb).trans h3, (hc _ hb).trans h4, (hc _ hb).trans h5, h6.keep hPQ hc, h7⟩
theorem ChsAt.keep {w w' : World} {P Q : Nat → Prop} (hPQ : ∀ b, P b → Q b) (hc : ∀ p : Addr, P p.block → w'.cell? p = w.cell? p) {v : Value} {cs : List CG} (h : ChsAt w P v cs) : ChsAt w' Q v cs := by
  obtain ⟨ao, cap, h1, h2, h3, h4, h5⟩ := h
  exact ⟨ao, cap, h1, h2, h3, h4, fun j c hj => by
    obtain ⟨b, off, e1, e2, e3⟩ := h5 j c hj
    exact ⟨b, off, e1, hPQ b e2, e3.keep hPQ hc e2⟩⟩
theorem ChsAt.below {w w' : World} {P : Nat → Prop} {M : Nat} {v : Value} {cs : List CG} (h : ChsAt w P v cs) (hb : Below M w w') (hP : ∀ b, P b → b < M) : ChsAt w' P v cs := h.keep (fun _ h => h) fun p hp => hb.cell (hP p.block hp)
theorem ChsAt.turn {w w' : World} {P M : Nat → Prop} {v : Value} {cs : List CG} (h : ChsAt w P v cs) (ht : Turn M w w') (hl : ∀ b, P b → b < w.heap.size) (hP : ∀ b, P b → ¬ M b) : ChsAt w' P v cs := h.keep (fun _ h => h) fun p hp => by
  unfold World.cell?
  rw [ht.block _ (hl _ hp) (hP _ hp)]
theorem ChsAt.form {w : World} {P : Nat → Prop} {v : Value} {cs : List CG} (h : ChsAt w P v cs) : ∃ ao cap, v = .slice ao cs.length cap ∧ cs.length ≤ maxLen := by
  obtain ⟨ao, cap, h1, h2, h3, h4, h5⟩ := h
  exact ⟨ao, cap, h1, by omega⟩
theorem ChsAt.at {w : World} {P : Nat → Prop} {ao : Option Addr} {n cap : Nat} {cs : List CG} (h : ChsAt w P (.slice ao n cap) cs) {j : Nat} {c : CG} (hj : cs[j]? = some c) : ∃ b off, ao = some ⟨b, off, none⟩ ∧ P b ∧ ChCells w P b off j c := by
  obtain ⟨ao', cap', h1, h2, h3, h4, h5⟩ := h
  cases h1
  exact h5 j c hj
theorem ChCells.form {w : World} {P : Nat → Prop} {b off j : Nat} {c : CG} (h : ChCells w P b off j c) : ∃ k n s ao l cap, w.cell? ⟨b, off + j * 6, none⟩ = some (.int .i64 c.1) ∧ w.cell? ⟨b, off + j * 6 + 1, none⟩ = some (.int .i64 k) ∧ w.cell? ⟨b, off + j * 6 + 2, none⟩ = some (.int .i64 n) ∧ w.cell? ⟨b, off + j * 6 + 3, none⟩ = some (.string s) ∧ w.cell? ⟨b, off + j * 6 + 4, none⟩ = some (.slice ao l cap) ∧ w.cell? ⟨b, off + j * 6 + 5, none⟩ = some (.bool c.2.2) ∧ ValIs w P c.2.1 (.agg #[.int .i64 k, .int .i64 n, .string s, .slice ao l cap]) ∧ (Lit.int .i64 c.1).wf = true := by
  obtain ⟨x0, x1, x2, x3, h0, h1, h2, h3, h4, h5, h6, h7⟩ := h
  obtain ⟨id, t, gone⟩ := c
  obtain ⟨k, n, s, l⟩ := t
  have hv := h6
  unfold ValIs at hv
  obtain ⟨ao, cap, e, _⟩ := hv
  simp only [Value.agg.injEq, Array.mk.injEq, List.cons.injEq, and_true] at e
  obtain ⟨rfl, rfl, rfl, rfl⟩ := e
  exact ⟨k, n, s, ao, _, cap, h0, h1, h2, h3, h4, h5, h6, h7⟩
def badId (most : Int) (c : CG) : Bool := decide (c.1 < 1 ∨ most < c.1)
def CkI (w : World) (cs : List CG) (most : Int) (gk : Nat) (s : Value) (wr : World) : Prop := ∃ i : Nat, s = .int .i64 (i : Int) ∧ i + gk = cs.length ∧ Below w.heap.size w wr ∧ (cs.take i).any (badId most) = false
theorem take_snoc {α : Type} {l : List α} {i : Nat} {x : α} (h : l[i]? = some x) : l.take (i + 1) = l.take i ++ [x] := by
  rw [List.take_add_one, h]
  rfl
set_option maxRecDepth 100000 in
set_option maxHeartbeats 4000000 in
theorem checkIds_any {w : World} {P : Nat → Prop} {v : Value} {cs : List CG} {most : Int} (h : ChsAt w P v cs) (hP : ∀ b, P b → b < w.heap.size) (hl : cs.length ≤ 1000000) (hm : (Lit.int .i64 most).wf = true) :
    Calls Tryz.prog 43 #[v, .int .i64 most] w fun e w' => e = .returned (.int .i64 (if cs.any (badId most) = true then 1 else 0)) ∧ Below w.heap.size w w' := by
  obtain ⟨ao, cap, rfl, _⟩ := h.form
  have HCH := Lib.hid h
  have HPL := Lib.hid hP
  have HL := Lib.hid hl
  have HI0 : Hid (CkI w cs most cs.length (.int .i64 0) w) := ⟨0, rfl, by omega, Below.refl _ _, rfl⟩
  obtain ⟨rr, hrr⟩ : ∃ r : Int, (if cs.any (badId most) = true then (1 : Int) else 0) = r := ⟨_, rfl⟩
  have HRR := Lib.hid hrr
  rw [hrr]
  clear h hP hl hrr
  go_enter Tryz.func43, Tryz.ntmps43
  go_wp2
  go_loopg [9] cs.length (fun gk s9 wr => CkI w cs most gk s9 wr)
  case atStart => exact HI0.out
  case round =>
    clear HI0
    rename World => wr
    obtain ⟨i, rfl, hik, hbr, hok⟩ := hrel
    have HBR := Lib.hid hbr
    have HIK := Lib.hid hik
    have HOK := Lib.hid hok
    by_cases hlt : i < cs.length
    · obtain ⟨c, hc⟩ : ∃ c, cs[i]? = some c := ⟨_, List.getElem?_eq_getElem hlt⟩
      obtain ⟨b, off, rfl, hPb, hcells⟩ := (HCH.out.below hbr HPL.out).at hc
      obtain ⟨k, n, s, ka, kl, kc, c0, c1, c2, c3, c4, c5, hv, hwf⟩ := hcells.form
      have g1 : (i : Int) < (cs.length : Int) := by omega
      have g2 : i * 6 + 6 ≤ cs.length * 6 := by omega
      have hwi : IntKind.i64.wrap ((i : Int) + 1) = (i : Int) + 1 := by rw [IntKind.wrap_i64]; have := HL.out; omega
      have HC := Lib.hid hc
      clear hik hbr hok hc hv hcells
      by_cases hbad : c.1 < 1 ∨ most < c.1
      · have HB2 : Hid (rr = 1) := by
          show _ = _
          rw [← HRR.out, if_pos]
          exact List.any_eq_true.2 ⟨c, List.mem_of_getElem? HC.out, by unfold badId; simpa using hbad⟩
        by_cases h1 : c.1 < 1
        · have q1 : decide (c.1 < 1) = true := by simpa using h1
          clear hbad h1
          go_wp2
          go_ret
          rw [HB2.out]
          exact ⟨rfl, HBR.out.alloc HBR.out.size _⟩
        · have q1 : decide (c.1 < 1) = false := by simpa using h1
          have q2 : decide (most < c.1) = true := by simpa using hbad.resolve_left h1
          clear hbad h1
          go_wp2
          go_ret
          rw [HB2.out]
          exact ⟨rfl, HBR.out.alloc HBR.out.size _⟩
      · have q1 : decide (c.1 < 1) = false := by simp; omega
        have q2 : decide (most < c.1) = false := by simp; omega
        have HB2 : Hid (badId most c = false) := by
          show _ = _
          unfold badId
          simpa using hbad
        clear hbad
        go_wp2
        go_roundg (gk - 1)
        case measure => have := HIK.out; omega
        case rel => exact ⟨i + 1, by go_num, by have := HIK.out; omega, HBR.out.alloc HBR.out.size _, by rw [take_snoc HC.out, List.any_append, HOK.out]; simpa using HB2.out⟩
    · obtain rfl : i = cs.length := by omega
      have g1 : ¬ ((cs.length : Int) < (cs.length : Int)) := by omega
      have hz : cs.any (badId most) = false := by rw [List.take_length] at hok; exact hok
      have HZ : Hid (rr = 0) := by show _ = _; rw [← HRR.out, hz]; rfl
      clear hik hbr hok hlt hz
      go_wp2
      go_ret
      rw [HZ.out]
      exact ⟨rfl, HBR.out⟩
end Go.Proofs.YtcpgbekcbaelpaaGreatDoor
