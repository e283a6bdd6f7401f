/- The law of bytes that are read: the walk. -/
import Derived.Test.YtofmbpmmgpbdbaaDoorDec
import Derived.Test.YtofmbpmmgpbdbaaDoorOpen
import Derived.ChangeSlices
namespace Go.Proofs.YtofmbpmmgpbdbaaDoor
open Go.RowKit Go.Maps Wr Go.ChangeShapes Go.WideShapes
set_option linter.unusedVariables false

theorem byte_of {n : Int} (h : (Lit.int .u8 n).wf = true) : ((UInt8.ofNat n.toNat).toNat : Int) = n := by
  have e1 : IntKind.u8.min = 0 := by decide
  have e2 : IntKind.u8.max = 255 := by decide
  simp only [Lit.wf, Bool.and_eq_true, decide_eq_true_eq] at h
  rw [e1, e2] at h
  simp [UInt8.toNat_ofNat']
  omega
theorem cells_b : Tryd.prog.cellsOf 5 = 1 := by kernel_rfl
set_option maxRecDepth 100000 in
/-- An argument of bytes. -/
theorem law_bytes {H : Type} {enc : TypeId × Value → H} {W : World} {v : Value} {base : Nat} {d : DataW H} {ps : List MemPlace} (hok : Value.okWide Tryd.prog W .any base 29 v) (h : DataW.Trod enc Tryd.prog W 0 (fun _ => true) true 29 v d ps) :
    ∃ b : List UInt8, BytesIn W v b := by
  obtain ⟨ao, len, cap, rfl⟩ := okWide_slice Tryd.underlying29 hok
  obtain ⟨fuel, hf⟩ := h
  rcases open_ints Tryd.underlying29 Tryd.underlying5 cells_b hf with ⟨e, _⟩ | ⟨a, len', cap', zs, e, _, h1, h2, h3, _, h4, h5⟩
  · have e' : Value.slice ao len cap = .slice none 0 0 := by simpa [Value.cells] using e
    rw [e']
    exact ⟨[], none, 0, rfl, Nat.le_refl _, by unfold maxLen; omega, fun _ => rfl, fun j hj => absurd hj (by simp)⟩
  · have e' : Value.slice ao len cap = .slice (some a) len' cap' := by simpa [Value.cells] using e
    rw [e']
    rw [if_pos rfl] at h3
    have hlen : ((zs.take len').map (fun n => UInt8.ofNat n.toNat)).length = len' := by rw [List.length_map, List.length_take]; omega
    refine ⟨(zs.take len').map (fun n => UInt8.ofNat n.toNat), some a, cap', by rw [hlen], by rw [hlen]; exact h1, h2, (fun e => by cases e), fun j hj => ?_⟩
    rw [hlen] at hj
    have hc := h4 j (by omega)
    have hz : zs[j]? = some (zs.getD j 0) := by simp [List.getD, show j < zs.length by omega]
    have hw := h5 (zs.getD j 0) (List.mem_of_getElem? hz)
    have hs := World.cell?_spot (h4 0 (by omega))
    obtain ⟨g, o, spot⟩ := a
    have hs' : spot = none := by
      simpa [Addr.add] using hs
    subst hs'
    rw [Go.WideShapes.add_plain] at hc
    refine ⟨g, o, rfl, World.block_lt_of_cell? _ _ hc, ?_⟩
    rw [hc]
    congr 2
    rw [List.getElem_map, List.getElem_take]
    rw [byte_of (n := zs[j]) (by have : zs.getD j 0 = zs[j] := by simp [List.getD, show j < zs.length by omega]
                                 rwa [this] at hw)]
    simp [List.getD, show j < zs.length by omega]
/-- 'string(b)'. -/
theorem run_bytes_str {w : World} {v : Value} {b : List UInt8} (h : BytesIn w v b) : (convert 29 9 v).run Tryd.prog w = .ok (.string (bytes b)) w := by
  obtain ⟨ao, cap, rfl, h1, h2, h3, h4⟩ := h
  cases ao with
  | none =>
    have hc := h3 rfl
    have hb : b = [] := List.length_eq_zero_iff.1 (by omega)
    subst hb
    exact run_convert_bytes_nil w 29 5 Tryd.underlying29 Tryd.underlying5 0 cap 9 Tryd.underlying9
  | some ad =>
    exact run_convert_bytes_back (P := Tryd.prog) w 29 9 5 ad cap b Tryd.underlying29 Tryd.underlying5 Tryd.underlying9 (fun j hj => by
      obtain ⟨g, o, e1, _, e4⟩ := h4 j hj
      cases e1
      rw [show (Addr.add ⟨g, o, none⟩ j) = ⟨g, o + j, none⟩ by unfold Addr.add; split <;> simp_all]
      exact e4)

theorem reads_at {w0 w5 w7 w9 : World} {t : VT} {ao5 ao7 : Option Addr} {cap5 cap7 : Nat} (hv5 : ValIs w5 (fun x => w0.heap.size ≤ x ∧ x < w5.heap.size) t (vval t ao5 cap5))
    (hv7 : ValIs w7 (fun x => (w5.alloc (.cells #[.int .i64 t.kind, .int .i64 t.num, .string t.text, .slice ao5 t.kids.length cap5] 24 (0, 0))).heap.size ≤ x ∧ x < w7.heap.size) t (vval t ao7 cap7))
    (hb7 : Below (w5.alloc (.cells #[.int .i64 t.kind, .int .i64 t.num, .string t.text, .slice ao5 t.kids.length cap5] 24 (0, 0))).heap.size (w5.alloc (.cells #[.int .i64 t.kind, .int .i64 t.num, .string t.text, .slice ao5 t.kids.length cap5] 24 (0, 0))) w7)
    (hb9 : Below (w7.alloc (.cells #[.int .i64 t.kind, .int .i64 t.num, .string t.text, .slice ao7 t.kids.length cap7] 24 (0, 0))).heap.size (w7.alloc (.cells #[.int .i64 t.kind, .int .i64 t.num, .string t.text, .slice ao7 t.kids.length cap7] 24 (0, 0))) w9) :
    w9.heap[w5.heap.size]? = some (.cells #[.int .i64 t.kind, .int .i64 t.num, .string t.text, .slice ao5 t.kids.length cap5] 24 (0, 0)) ∧ w9.heap[w7.heap.size]? = some (.cells #[.int .i64 t.kind, .int .i64 t.num, .string t.text, .slice ao7 t.kids.length cap7] 24 (0, 0)) ∧
      ValIs w9 (fun b => b < w9.heap.size) t (.agg #[.int .i64 t.kind, .int .i64 t.num, .string t.text, .slice ao5 t.kids.length cap5]) ∧ ValIs w9 (fun b => b < w9.heap.size) t (.agg #[.int .i64 t.kind, .int .i64 t.num, .string t.text, .slice ao7 t.kids.length cap7]) ∧ w7.heap.size ≤ w9.heap.size := by
  have hA5 := (Below.refl w5.heap.size w5).alloc (Nat.le_refl _) (.cells #[.int .i64 t.kind, .int .i64 t.num, .string t.text, .slice ao5 t.kids.length cap5] 24 (0, 0))
  have hA7 := (Below.refl w7.heap.size w7).alloc (Nat.le_refl _) (.cells #[.int .i64 t.kind, .int .i64 t.num, .string t.text, .slice ao7 t.kids.length cap7] 24 (0, 0))
  have h79 : Below w7.heap.size w7 w9 := hA7.trans (hb9.mono hA7.size)
  have z5 := (hb7.block w5.heap.size (by simp)).trans (heap_alloc_new w5 _)
  have s57 := Nat.le_trans hA5.size hb7.size
  refine ⟨(h79.block _ (lt_of_block z5)).trans z5, (hb9.block w7.heap.size (by simp)).trans (heap_alloc_new w7 _), ?_, ?_, h79.size⟩
  · exact (((hv5.below hA5 (fun b hb => hb.2)).below hb7 (fun b hb => Nat.lt_of_lt_of_le hb.2 hA5.size)).below h79 (fun b hb => Nat.lt_of_lt_of_le hb.2 s57)).mono (fun b hb => by have := h79.size; omega)
  · exact (hv7.below h79 (fun b hb => hb.2)).mono (fun b hb => Nat.lt_of_lt_of_le hb.2 h79.size)
set_option maxRecDepth 100000 in
set_option maxHeartbeats 1600000 in
theorem valReads_walk (v : Value) (b : List UInt8) (w : World) (hT : Tab w) (hv : BytesIn w v b) : Calls Tryd.prog 8 #[v] w fun e w' => e = .returned (.bool true) ∧ Below w.heap.size w w' := by
  have HT := Lib.hid hT
  have HV := Lib.hid hv
  have hv0 := hv
  obtain ⟨ao, cap, rfl, hlc, hcm, _⟩ := hv
  unfold maxLen at hcm
  clear hT
  by_cases hbig : 3000 < b.length
  · have g1 : (3000 : Int) < (b.length : Int) := by omega
    clear hv0
    go_enter Tryd.func8, Tryd.ntmps8
    go_wp2_with (go_at_call 13; refine (vals_any w HT.out).mono ?_; rintro e w17 ⟨rfl, hb17⟩; have G17 := Lib.hid hb17; clear hb17)
    go_ret
    exact ⟨rfl, G17.out⟩
  · have g1 : ¬ (3000 : Int) < (b.length : Int) := by omega
    have hcv := fun (W : World) (hW : Below w.heap.size w W) => run_bytes_str (hv0.below hW)
    have hcv0 := hcv w (Below.refl _ _)
    have hcv1 := hcv (w.alloc Z4) ((Below.refl _ _).alloc (Nat.le_refl _) _)
    obtain ⟨t, y, ht⟩ : ∃ t y, dec b = (t, y) := ⟨_, _, rfl⟩
    have HD1 : Hid (∀ W, Calls Tryd.prog 23 #[.string (bytes b)] W (fun e w' => ∃ v, e = .returned (.tuple #[v, .int .i64 y]) ∧ ValIs w' (fun x => W.heap.size ≤ x ∧ x < w'.heap.size) t v ∧ Below W.heap.size W w')) := fun W => by
      have := refDecode_any b W (by omega)
      unfold DecEnd at this
      rwa [ht] at this
    have HD2 : Hid (∀ W, Below w.heap.size w W → Calls Tryd.prog 24 #[.slice ao b.length cap] W (fun e w' => ∃ v, e = .returned (.tuple #[v, .int .i64 y]) ∧ ValIs w' (fun x => W.heap.size ≤ x ∧ x < w'.heap.size) t v ∧ Below W.heap.size W w')) := fun W hW => by
      have := decode_any _ b W (hv0.below hW) (by omega)
      unfold DecEnd at this
      rwa [ht] at this
    have HS := Lib.hid (VT.same_refl t)
    have hye : (y == y) = true := by simp
    clear hv0 hcv ht
    go_enter Tryd.func8, Tryd.ntmps8
    go_wp2_with (first
      | (go_at_call 23; refine (HD1.out _).mono ?_; rintro e w5 ⟨v5, rfl, hv5, hb5⟩; obtain ⟨ao5, cap5, rfl⟩ := hv5.form; have B6 : Hid (Below w.heap.size w (w5.alloc (.cells #[.int .i64 t.kind, .int .i64 t.num, .string t.text, .slice ao5 t.kids.length cap5] 24 (0, 0)))) := hb5.trans ((Below.refl _ _).alloc hb5.size _); have V5 := Lib.hid hv5; clear hv5 hb5; unfold vval)
      | (go_at_call 24; refine (HD2.out _ B6.out).mono ?_; rintro e w7 ⟨v7, rfl, hv7, hb7⟩; obtain ⟨ao7, cap7, rfl⟩ := hv7.form; have V7 := Lib.hid hv7; have B7 := Lib.hid hb7; clear hv7 hb7; unfold vval)
      | (go_at_call 13; have B8 : Hid (Below w.heap.size w (w7.alloc (.cells #[.int .i64 t.kind, .int .i64 t.num, .string t.text, .slice ao7 t.kids.length cap7] 24 (0, 0)))) := (B6.out.trans (B7.out.mono B6.out.size)).trans ((Below.refl _ _).alloc (Nat.le_trans B6.out.size B7.out.size) _); refine (vals_any _ (HT.out.below B8.out)).mono ?_; rintro e w9 ⟨rfl, hb9⟩; obtain ⟨hg1, hg2, hg3, hg4, hg5⟩ := reads_at V5.out V7.out B7.out hb9; obtain ⟨c0, c1, c2, c3, _⟩ := hdr4_cells hg1; obtain ⟨d0, d1, d2, d3, _⟩ := hdr4_cells hg2; have G3 := Lib.hid hg3; have G4 := Lib.hid hg4; have B9 := Lib.hid (B8.out.trans (hb9.mono B8.out.size)); clear hb9 hg1 hg2 hg3 hg4 hg5)
      | (go_at_call 15; refine (refSame_walk t.sz t t _ _ w9 _ (Nat.le_refl _) G3.out G4.out (fun b hb => hb)).mono ?_; rintro e w17 ⟨rfl, hb17⟩; rw [HS.out]; have G17 := Lib.hid (B9.out.trans (hb17.mono B9.out.size)); clear hb17))
    all_goals
      go_ret
      exact ⟨by rfl, G17.out⟩
end Go.Proofs.YtofmbpmmgpbdbaaDoor
