/- Both Decodes: what they answer. -/
import Derived.Test.YtofmbpmmgpbdbaaDoorGet
namespace Go.Proofs.YtofmbpmmgpbdbaaDoor
open Go.RowKit Go.Maps Wr
set_option linter.unusedVariables false

/-- What Decode answers. -/
def dec (b : List UInt8) : VT × Int :=
  if 16384 < b.length then (.node 0 0 ⟨#[]⟩ [], 2)
  else if (rv 200 b).2.2 = 0 ∧ (rv 200 b).2.1 = [] ∧ (rv 200 b).1.right 1 = true then ((rv 200 b).1, 0) else (.node 0 0 ⟨#[]⟩ [], 2)
theorem rv_enc {f : Nat} {b : List UInt8} (h0 : (rv f b).2.2 = 0) (h1 : (rv f b).2.1 = []) : (rv f b).1.enc = b := by
  have h : rdVal f b = .ok ((rv f b).1, (rv f b).2.1) := by rw [rv_eq]; unfold asEx; rw [if_pos h0]
  have := rdVal_sound f b _ _ h
  rw [h1, List.append_nil] at this
  exact this.symm
theorem dec_big {b : List UInt8} (h : 16384 < b.length) : dec b = (.node 0 0 ⟨#[]⟩ [], 2) := by unfold dec; rw [if_pos h]
theorem dec_no {b : List UInt8} (h : ¬ 16384 < b.length) (h2 : ¬ ((rv 200 b).2.2 = 0 ∧ (rv 200 b).2.1 = [] ∧ (rv 200 b).1.right 1 = true)) : dec b = (.node 0 0 ⟨#[]⟩ [], 2) := by unfold dec; rw [if_neg h, if_neg h2]
theorem dec_ok {b : List UInt8} (h : ¬ 16384 < b.length) (h0 : (rv 200 b).2.2 = 0) (h1 : (rv 200 b).2.1 = []) (h2 : (rv 200 b).1.right 1 = true) : dec b = ((rv 200 b).1, 0) := by unfold dec; rw [if_neg h, if_pos ⟨h0, h1, h2⟩]

/-- A slice that reads as these bytes. -/
def BytesIn (w : World) (v : Value) (b : List UInt8) : Prop :=
  ∃ ao cap, v = .slice ao b.length cap ∧ b.length ≤ cap ∧ cap ≤ maxLen ∧ (ao = none → cap = 0) ∧ ∀ j (h : j < b.length), ∃ g o, ao = some ⟨g, o, none⟩ ∧ g < w.heap.size ∧ w.cell? ⟨g, o + j, none⟩ = some (.int .u8 ((b[j]).toNat : Int))
theorem BytesIn.below {w w' : World} {v : Value} {b : List UInt8} (h : BytesIn w v b) (hb : Below w.heap.size w w') : BytesIn w' v b := by
  obtain ⟨ao, cap, h1, h2, h3, h4, h5⟩ := h
  refine ⟨ao, cap, h1, h2, h3, h4, fun j hj => ?_⟩
  obtain ⟨g, o, e0, e1, e2⟩ := h5 j hj
  exact ⟨g, o, e0, Nat.lt_of_lt_of_le e1 hb.size, (hb.cell (p := ⟨g, o + j, none⟩) e1).trans e2⟩
theorem row_cells {w : World} {N : Nat} {v : Value} {b : List UInt8} (h : ByteRow w N v b) : ∃ ao cap, v = .slice ao b.length cap ∧ b.length ≤ cap ∧ cap ≤ maxLen ∧ (ao = none → cap = 0) ∧ ∀ j (h : j < b.length), ∃ g, ao = some ⟨g, 0, none⟩ ∧ N ≤ g ∧ g < w.heap.size ∧ w.cell? ⟨g, j, none⟩ = some (.int .u8 ((b[j]).toNat : Int)) := by
  rcases h.1.shape with ⟨rfl, h0⟩ | ⟨g, cap, rfl, h1, h2, hg⟩
  · have hb : b = [] := by
      have := congrArg List.length h0
      rw [bvals_length] at this
      exact List.length_eq_zero_iff.1 this
    subst hb
    exact ⟨none, 0, rfl, Nat.le_refl _, by unfold maxLen; omega, fun _ => rfl, fun j hj => absurd hj (by simp)⟩
  · have hr := h.1
    rw [bvals_length] at h1 hr ⊢
    refine ⟨some ⟨g, 0, none⟩, cap, rfl, h1, h2, (fun e => by cases e), fun j hj => ⟨g, rfl, h.2 g rfl, hg, ?_⟩⟩
    rw [hr.cellAt j (by rw [bvals_length]; exact hj)]
    simp [bvals, hj]
theorem BytesIn.row {w : World} {N : Nat} {v : Value} {b : List UInt8} (h : ByteRow w N v b) : BytesIn w v b := by
  obtain ⟨ao, cap, h1, h2, h3, h4, h5⟩ := row_cells h
  refine ⟨ao, cap, h1, h2, h3, h4, fun j hj => ?_⟩
  obtain ⟨g, e0, _, e1, e2⟩ := h5 j hj
  exact ⟨g, 0, e0, e1, by rw [Nat.zero_add]; exact e2⟩
set_option maxRecDepth 100000 in
/-- bytes.Clone. -/
theorem clone_any (v : Value) (b : List UInt8) (w : World) (h : BytesIn w v b) (hl : b.length ≤ 1000000) : Calls Tryd.prog 67 #[v] w fun e w' => ∃ v', e = .returned v' ∧ ByteRow w' w.heap.size v' b ∧ Below w.heap.size w w' := by
  obtain ⟨ao, cap, rfl, h2, h3, h4, h5⟩ := h
  cases ao with
  | none =>
    have hc := h4 rfl
    subst hc
    have hb : b = [] := List.length_eq_zero_iff.1 (by omega)
    subst hb
    clear h5 h4 h3 h2
    have he : ∀ w : World, (binOp .eql 29 (.slice none 0 0) (.slice none 0 0)).run Tryd.prog w = .ok (.bool true) w := fun _ => rfl
    go_enter Tryd.func67, Tryd.ntmps67
    go_wp2
    all_goals
      go_ret
      exact ⟨_, rfl, nil_row _ _, Below.refl _ _⟩
  | some A =>
    obtain ⟨i0, hi, hz0, hz1, hz2⟩ := info_parts infoB
    have hown0 : (w.alloc (.cells #[] 5)).ownsRow w.heap.size 5 1 (.slice (some ⟨w.heap.size, 0, none⟩) 0 0) 0 [] :=
      ⟨rfl, .inr ⟨w.heap.size, 0, #[], rfl, Nat.le_refl _, by show (w.heap.push _)[w.heap.size]? = _; simp, Nat.le_refl _, by unfold maxLen; omega, rfl, rfl⟩⟩
    have he : ∀ w : World, (binOp .eql 29 (.slice (some A) b.length cap) (.slice none 0 0)).run Tryd.prog w = .ok (.bool false) w := fun _ => rfl
    go_enter Tryd.func67, Tryd.ntmps67
    have hbl : b.length ≤ maxLen := by unfold maxLen; omega
    have H5 := Lib.hid h5
    have HBL := Lib.hid hbl
    clear h5 hbl
    go_wp2_with (at_builtin; refine wpList_append_own _ rfl (.tmp 5) (.tmp 6) 29 rfl w.heap.size 5 i0 (.int .u8 0) 1 1 Tryd.underlying29 hi hz0 hz1 hz2 rfl (by decide) _ _ _ rfl hown0 A b.length cap (bvals b) rfl (by rw [bvals_length, Nat.mul_one]) ?c1 (bvals_one b) (by have := HBL.out; omega) (by omega) (by simp) ?_)
    case c1 =>
      intro j u hu
      have hj : j < b.length := by
        have := (List.getElem?_eq_some_iff.1 hu).1
        rwa [bvals_length] at this
      obtain ⟨g, o, e0, e1, e2⟩ := H5.out j hj
      simp only [Option.some.injEq] at e0
      subst e0
      rw [show (Addr.add ⟨g, o, none⟩ j) = ⟨g, o + j, none⟩ by unfold Addr.add; split <;> simp_all]
      rw [((Below.refl w.heap.size w).alloc (Nat.le_refl _) _).cell (p := ⟨g, o + j, none⟩) e1, e2]
      rw [← hu]
      simp [bvals, hj]
    intro v' w1 hown' hgrow hnil
    go_wp2
    go_ret
    exact ⟨_, rfl, ByteRow.of hown' rfl, ((Below.refl _ _).alloc (Nat.le_refl _) _).grown hgrow (by simp) (fun k hk => by simp [Value.ownBlock] at hk; omega)⟩

/-- wire.Open. -/
theorem open_any (v : Value) (b : List UInt8) (w : World) (h : BytesIn w v b) (hl : b.length ≤ 1000000) : Calls Tryd.prog 44 #[v] w fun e w' => ∃ p M, e = .returned (.pointer (some ⟨p, 0, none⟩)) ∧ w.heap.size ≤ p ∧ M ≤ w'.heap.size ∧ InW M w' p b 0 ∧ Below w.heap.size w w' := by
  have HC := Lib.hid (clone_any v b w h hl)
  obtain ⟨ao, cap, rfl, _⟩ := h
  go_enter Tryd.func44, Tryd.ntmps44
  go_wp2_with (go_at_call 67; refine HC.out.mono ?_; rintro e w5 ⟨v5, rfl, hr5, hb5⟩; obtain ⟨ao5, cap5, rfl, h2, h3, h4, h5⟩ := row_cells hr5; have HB5 := Lib.hid hb5; have H5 := Lib.hid h5; have H2 := Lib.hid h2; have H3 := Lib.hid h3; clear hb5 hr5 h5 h2 h3 h4)
  go_ret
  refine ⟨_, w5.heap.size, rfl, HB5.out.size, by simp, ⟨_, heap_alloc_new _ _, ao5, cap5, rfl, H2.out, H3.out, fun j hj => ?_⟩, HB5.out.trans ((Below.refl _ _).alloc HB5.out.size _)⟩
  obtain ⟨g, e0, e1, e2, e3⟩ := H5.out j hj
  exact ⟨g, 0, e0, by omega, ⟨e2, by simp⟩, by rw [Nat.zero_add]; exact (((Below.refl w5.heap.size w5).alloc (Nat.le_refl _) _).cell (p := ⟨g, j, none⟩) e2).trans e3⟩

def DecEnd (w : World) (b : List UInt8) (e : Ending) (w' : World) : Prop :=
  ∃ v, e = .returned (.tuple #[v, .int .i64 (dec b).2]) ∧ ValIs w' (fun x => w.heap.size ≤ x ∧ x < w'.heap.size) (dec b).1 v ∧ Below w.heap.size w w'
theorem dec_zero {w wz : World} {b : List UInt8} (hd : dec b = (.node 0 0 ⟨#[]⟩ [], 2)) (hb : Below w.heap.size w wz) : DecEnd w b (.returned (.tuple #[.agg #[.int .i64 0, .int .i64 0, .string ⟨#[]⟩, .slice none 0 0], .int .i64 2])) wz := by
  unfold DecEnd
  rw [hd]
  exact ⟨_, rfl, leaf_is _ _ 0 0 ⟨#[]⟩ (by decide) (by decide) (sz_max _ (by decide)), hb⟩
theorem end_cases {x : Int} {r : List UInt8} : ((if x = 0 ∧ r ≠ [] then 2 else x) = 0) ↔ x = 0 ∧ r = [] := by
  by_cases h : x = 0 ∧ r ≠ []
  · rw [if_pos h]
    constructor
    · intro h2; omega
    · intro h2; exact absurd h2.2 h.2
  · rw [if_neg h]
    constructor
    · intro h2
      refine ⟨h2, ?_⟩
      by_cases hr : r = []
      · exact hr
      · exact absurd ⟨h2, hr⟩ h
    · intro h2; exact h2.1
/-- The world behind a call: the result's box H, the value's box q, the value t, its blocks from B on. -/
structure DecAt (w W : World) (H q B : Nat) (t : VT) (ao : Option Addr) (cap : Nat) : Prop where
  hH : H = w.heap.size
  hB : H < B
  hq : B ≤ q
  zH : W.heap[H]? = some Z4
  zq : W.heap[q]? = some (.cells #[.int .i64 t.kind, .int .i64 t.num, .string t.text, .slice ao t.kids.length cap] 24 (0, 0))
  hv : ValIs W (fun x => B ≤ x ∧ x < W.heap.size) t (vval t ao cap)
  hb : Below w.heap.size w W
section
variable {w W W' : World} {H q B : Nat} {t : VT} {ao : Option Addr} {cap : Nat}
theorem DecAt.chg {F : List Nat} (h : DecAt w W H q B t ao cap) (hc : Chg F W W') (hF : ∀ k ∈ F, k < B ∧ H < k) : DecAt w W' H q B t ao cap := by
  have h1 := h.hH
  have h2 := h.hq
  have h3 := h.hB
  refine ⟨h1, h3, h2, (hc.block _ (lt_of_block h.zH) (fun hm => by have := hF _ hm; omega)).trans h.zH, (hc.block _ (lt_of_block h.zq) (fun hm => by have := hF _ hm; omega)).trans h.zq, ?_, ?_⟩
  · exact (h.hv.chg hc (fun b hb => ⟨hb.2, fun hm => by have := hF _ hm; omega⟩)).mono (fun x hx => ⟨hx.1, Nat.lt_of_lt_of_le hx.2 hc.size⟩)
  · exact h.hb.trans (hc.below h.hb.size (fun k hk => by have := hF k hk; omega))
theorem DecAt.below (h : DecAt w W H q B t ao cap) (hb : Below W.heap.size W W') : DecAt w W' H q B t ao cap :=
  ⟨h.hH, h.hB, h.hq, (hb.block _ (lt_of_block h.zH)).trans h.zH, (hb.block _ (lt_of_block h.zq)).trans h.zq, (h.hv.below hb (fun b hb => hb.2)).mono (fun x hx => ⟨hx.1, Nat.lt_of_lt_of_le hx.2 hb.size⟩), h.hb.trans (hb.mono h.hb.size)⟩
theorem dec_at {w5 : World} {p : Nat} (hc5 : Chg [p] W w5) (hp : w.heap.size < p) (z0 : W.heap[w.heap.size]? = some Z4) (hb : Below w.heap.size w W) (hv5 : ValIs w5 (fun x => W.heap.size ≤ x ∧ x < w5.heap.size) t (vval t ao cap)) :
    DecAt w (w5.alloc (.cells #[.int .i64 t.kind, .int .i64 t.num, .string t.text, .slice ao t.kids.length cap] 24 (0, 0))) w.heap.size w5.heap.size W.heap.size t ao cap := by
  have hA := (Below.refl w5.heap.size w5).alloc (Nat.le_refl _) (.cells #[.int .i64 t.kind, .int .i64 t.num, .string t.text, .slice ao t.kids.length cap] 24 (0, 0))
  have hl := lt_of_block z0
  have z5 := (hc5.block _ hl (by simp; omega)).trans z0
  refine ⟨rfl, hl, hc5.size, (hA.block _ (lt_of_block z5)).trans z5, heap_alloc_new _ _, (hv5.below hA (fun b hb => hb.2)).mono (fun x hx => ⟨hx.1, Nat.lt_of_lt_of_le hx.2 hA.size⟩), ?_⟩
  exact (hb.trans (hc5.below hb.size (fun k hk => by simp at hk; omega))).trans (hA.mono (Nat.le_trans hb.size hc5.size))
theorem DecAt.stored (h : DecAt w W H q B t ao cap) (hc : Chg [H] W W') : Below w.heap.size w W' := h.hb.trans (hc.below h.hb.size (fun k hk => by simp at hk; rw [hk, h.hH]; exact Nat.le_refl _))
theorem dec_full {b : List UInt8} (hd : dec b = (t, 0)) (h : DecAt w W H q B t ao cap) (hc : Chg [H] W W') : DecEnd w b (.returned (.tuple #[vval t ao cap, .int .i64 0])) W' := by
  unfold DecEnd
  rw [hd]
  refine ⟨_, rfl, ?_, h.stored hc⟩
  have h1 := h.hH
  have h3 := h.hB
  exact (h.hv.chg hc (fun x hx => ⟨hx.2, by simp; omega⟩)).mono (fun x hx => ⟨by omega, Nat.lt_of_lt_of_le hx.2 hc.size⟩)
end

set_option maxRecDepth 100000 in
set_option maxHeartbeats 1600000 in
theorem refDecode_any (b : List UInt8) (w : World) (hl : b.length ≤ 1000000) : Calls Tryd.prog 23 #[.string (bytes b)] w (DecEnd w b) := by
  have hsz : (bytes b).size = b.length := bytes_size b
  by_cases hbig : 16384 < b.length
  · have g1 : (16384 : Int) < ((bytes b).size : Int) := by omega
    have hd := Lib.hid (dec_big hbig)
    clear hsz
    go_enter Tryd.func23, Tryd.ntmps23
    go_wp2
    all_goals
      obtain ⟨y0, y1, y2, y3, _⟩ := hdr4_cells (heap_alloc_new w Z4)
      refine bodyPost_ret (v := .tuple #[.agg #[.int .i64 0, .int .i64 0, .string ⟨#[]⟩, .slice none 0 0], .int .i64 2]) (by simp [results, Tryd.results23, go_sem, y0, y1, y2, y3]) rfl ?_
      exact dec_zero hd.out ((Below.refl _ _).alloc (Nat.le_refl _) _)
  · have g1 : ¬ (16384 : Int) < ((bytes b).size : Int) := by omega
    obtain ⟨t, r, x, hrv⟩ : ∃ t r x, rv 200 b = (t, r, x) := ⟨_, _, _, rfl⟩
    have hin0 : InR ((w.alloc Z4).alloc (.cells #[.string (bytes b), .int .i64 0] 73 (0, 0))) (w.heap.size + 1) b 0 := by
      have := heap_alloc_new (w.alloc Z4) (.cells #[.string (bytes b), .int .i64 0] 73 (0, 0))
      simpa [InR] using this
    have HRD := read_walk 200 (w.heap.size + 1) b 1 _ hin0 hl (by omega) (by omega)
    rw [hrv] at HRD
    have HRD := Lib.hid HRD
    obtain ⟨y, hy⟩ : ∃ y : Int, y = (if x = 0 ∧ r ≠ [] then 2 else x) := ⟨_, rfl⟩
    have HRE := Lib.hid (fun p W hW => by have := refEnd_read p r x W hW; rwa [← hy] at this)
    have hZ0 : ((w.alloc Z4).alloc (.cells #[.string (bytes b), .int .i64 0] 73 (0, 0))).heap[w.heap.size]? = some Z4 := (heap_alloc_old _ _ (by simp)).trans (heap_alloc_new _ _)
    have Z0 := Lib.hid hZ0
    have HRV := Lib.hid hrv
    have HYC : Hid (y = 0 ↔ x = 0 ∧ r = []) := by rw [hy]; exact end_cases
    clear hsz hrv hin0 hy hZ0
    by_cases hy0 : y = 0
    · subst hy0
      obtain ⟨rfl, rfl⟩ := HYC.out.1 rfl
      have henc : t.enc = b := by have := rv_enc (f := 200) (b := b) (by rw [HRV.out]) (by rw [HRV.out]); rwa [HRV.out] at this
      have hsm : ¬ 16384 < t.enc.length := by rw [henc]; exact hbig
      by_cases hrt : t.right 1 = true
      · have hd := Lib.hid (dec_ok hbig (by rw [HRV.out]) (by rw [HRV.out]) (by rw [HRV.out]; exact hrt))
        obtain ⟨he1, he2⟩ := encErr_ok hrt hsm
        have HE1 := Lib.hid he1
        have HE2 : Hid (encBytes t = b) := he2.trans henc
        have HEE : Hid (RefEncEnd = RefEncEnd) := rfl
        clear he1 he2 henc hsm hrt
        go_enter Tryd.func23, Tryd.ntmps23
        go_wp2_with (first
          | (go_at_call 42; refine HRD.out.mono ?_; rintro e w5 ⟨v5, rfl, hv5, hi5, hc5⟩; obtain ⟨ao5, cap5, rfl⟩ := hv5.form; have d5 := dec_at (w := w) hc5 (by omega) Z0.out (((Below.refl w.heap.size w).alloc (Nat.le_refl _) Z4).alloc (by simp) _) hv5; have D6 := Lib.hid d5; have I6 := Lib.hid (hi5.chg ((Chg.refl [] w5).alloc (.cells #[.int .i64 t.kind, .int .i64 t.num, .string t.text, .slice ao5 t.kids.length cap5] 24 (0, 0))) (by simp)); clear hv5 hi5 hc5 d5; unfold vval)
          | (go_at_call 43; refine (HRE.out _ _ I6.out).mono ?_; rintro e w7 ⟨rfl, hc7⟩; have d7 := D6.out.chg hc7 (by intro k hk; simp at hk ⊢; omega); obtain ⟨a0, a1, a2, a3, a4⟩ := hdr4_cells d7.zq; obtain ⟨b0, b1, b2, b3, b4⟩ := hdr4_cells d7.zH; have D7 := Lib.hid d7; clear hc7 d7)
          | (go_at_call 11; refine (refEncode_any t (vval t ao5 cap5) w7 _ D7.out.hv (fun x hx => hx.2)).mono ?_; rintro e w8 ⟨rfl, hb8⟩; rw [HE1.out, HE2.out]; have d8 := D7.out.below hb8; obtain ⟨c0, c1, c2, c3, c4⟩ := hdr4_cells d8.zq; obtain ⟨e0, e1, e2, e3, e4⟩ := hdr4_cells d8.zH; have D8 := Lib.hid d8; clear hb8 d8))
        all_goals
          obtain ⟨z1, z2⟩ := four_ret (y0 := .int .i64 t.kind) (y1 := .int .i64 t.num) (y2 := .string t.text) (y3 := .slice ao5 t.kids.length cap5) D8.out.zH
          generalize ((((w8.setCell _ _).setCell _ _).setCell _ _).setCell _ _) = wz at z1 z2 ⊢
          obtain ⟨y0, y1, y2, y3, _⟩ := hdr4_cells z1
          refine bodyPost_ret (v := .tuple #[vval t ao5 cap5, .int .i64 0]) (by simp [results, Tryd.results23, go_sem, y0, y1, y2, y3, vval]) rfl ?_
          exact dec_full (by rw [hd.out, HRV.out]) D8.out z2
      · have hrf : t.right 1 = false := by simpa using hrt
        have hd := Lib.hid (dec_no hbig (fun h => hrt (by have := h.2.2; rwa [HRV.out] at this)))
        obtain ⟨he1, he2⟩ := encErr_wrong hrf
        have HE1 := Lib.hid he1
        have HE2 := Lib.hid he2
        clear he1 he2 henc hsm hrt hrf
        go_enter Tryd.func23, Tryd.ntmps23
        go_wp2_with (first
          | (go_at_call 42; refine HRD.out.mono ?_; rintro e w5 ⟨v5, rfl, hv5, hi5, hc5⟩; obtain ⟨ao5, cap5, rfl⟩ := hv5.form; have d5 := dec_at (w := w) hc5 (by omega) Z0.out (((Below.refl w.heap.size w).alloc (Nat.le_refl _) Z4).alloc (by simp) _) hv5; have D6 := Lib.hid d5; have I6 := Lib.hid (hi5.chg ((Chg.refl [] w5).alloc (.cells #[.int .i64 t.kind, .int .i64 t.num, .string t.text, .slice ao5 t.kids.length cap5] 24 (0, 0))) (by simp)); clear hv5 hi5 hc5 d5; unfold vval)
          | (go_at_call 43; refine (HRE.out _ _ I6.out).mono ?_; rintro e w7 ⟨rfl, hc7⟩; have d7 := D6.out.chg hc7 (by intro k hk; simp at hk ⊢; omega); obtain ⟨a0, a1, a2, a3, a4⟩ := hdr4_cells d7.zq; obtain ⟨b0, b1, b2, b3, b4⟩ := hdr4_cells d7.zH; have D7 := Lib.hid d7; clear hc7 d7)
          | (go_at_call 11; refine (refEncode_any t (vval t ao5 cap5) w7 _ D7.out.hv (fun x hx => hx.2)).mono ?_; rintro e w8 ⟨rfl, hb8⟩; rw [HE1.out, HE2.out]; have d8 := D7.out.below hb8; obtain ⟨e0, e1, e2, e3, e4⟩ := hdr4_cells d8.zH; have D8 := Lib.hid d8; clear hb8 d8))
        all_goals
          obtain ⟨z1, z2⟩ := four_ret (y0 := .int .i64 0) (y1 := .int .i64 0) (y2 := .string ⟨#[]⟩) (y3 := .slice none 0 0) D8.out.zH
          generalize ((((w8.setCell _ _).setCell _ _).setCell _ _).setCell _ _) = wz at z1 z2 ⊢
          obtain ⟨y0, y1, y2, y3, _⟩ := hdr4_cells z1
          refine bodyPost_ret (v := .tuple #[.agg #[.int .i64 0, .int .i64 0, .string ⟨#[]⟩, .slice none 0 0], .int .i64 2]) (by simp [results, Tryd.results23, go_sem, y0, y1, y2, y3]) rfl ?_
          exact dec_zero hd.out (D8.out.stored z2)
    · have hq : (y == 0) = false := by simpa using hy0
      have hd := Lib.hid (dec_no hbig (fun h => hy0 (HYC.out.2 (by rw [HRV.out] at h; exact ⟨h.1, h.2.1⟩))))
      clear hy0
      go_enter Tryd.func23, Tryd.ntmps23
      go_wp2_with (first
        | (go_at_call 42; refine HRD.out.mono ?_; rintro e w5 ⟨v5, rfl, hv5, hi5, hc5⟩; obtain ⟨ao5, cap5, rfl⟩ := hv5.form; have d5 := dec_at (w := w) hc5 (by omega) Z0.out (((Below.refl w.heap.size w).alloc (Nat.le_refl _) Z4).alloc (by simp) _) hv5; have D6 := Lib.hid d5; have I6 := Lib.hid (hi5.chg ((Chg.refl [] w5).alloc (.cells #[.int .i64 t.kind, .int .i64 t.num, .string t.text, .slice ao5 t.kids.length cap5] 24 (0, 0))) (by simp)); clear hv5 hi5 hc5 d5; unfold vval)
        | (go_at_call 43; refine (HRE.out _ _ I6.out).mono ?_; rintro e w7 ⟨rfl, hc7⟩; have d7 := D6.out.chg hc7 (by intro k hk; simp at hk ⊢; omega); obtain ⟨a0, a1, a2, a3, a4⟩ := hdr4_cells d7.zq; obtain ⟨b0, b1, b2, b3, b4⟩ := hdr4_cells d7.zH; have D7 := Lib.hid d7; clear hc7 d7))
      all_goals
        obtain ⟨z1, z2⟩ := four_ret (y0 := .int .i64 0) (y1 := .int .i64 0) (y2 := .string ⟨#[]⟩) (y3 := .slice none 0 0) D7.out.zH
        generalize ((((w7.setCell _ _).setCell _ _).setCell _ _).setCell _ _) = wz at z1 z2 ⊢
        obtain ⟨y0, y1, y2, y3, _⟩ := hdr4_cells z1
        refine bodyPost_ret (v := .tuple #[.agg #[.int .i64 0, .int .i64 0, .string ⟨#[]⟩, .slice none 0 0], .int .i64 2]) (by simp [results, Tryd.results23, go_sem, y0, y1, y2, y3]) rfl ?_
        exact dec_zero hd.out (D7.out.stored z2)
set_option maxRecDepth 100000 in
set_option maxHeartbeats 1600000 in
theorem decode_any (v : Value) (b : List UInt8) (w : World) (hv : BytesIn w v b) (hl : b.length ≤ 1000000) : Calls Tryd.prog 24 #[v] w (DecEnd w b) := by
  have HOP := Lib.hid (open_any v b (w.alloc Z4) (hv.below ((Below.refl _ _).alloc (Nat.le_refl _) _)) hl)
  obtain ⟨ao, cap, rfl, _⟩ := hv
  by_cases hbig : 16384 < b.length
  · have g1 : (16384 : Int) < (b.length : Int) := by omega
    have hd := Lib.hid (dec_big hbig)
    go_enter Tryd.func24, Tryd.ntmps24
    go_wp2
    all_goals
      obtain ⟨y0, y1, y2, y3, _⟩ := hdr4_cells (heap_alloc_new w Z4)
      refine bodyPost_ret (v := .tuple #[.agg #[.int .i64 0, .int .i64 0, .string ⟨#[]⟩, .slice none 0 0], .int .i64 2]) (by simp [results, Tryd.results24, go_sem, y0, y1, y2, y3]) rfl ?_
      exact dec_zero hd.out ((Below.refl _ _).alloc (Nat.le_refl _) _)
  · have g1 : ¬ (16384 : Int) < (b.length : Int) := by omega
    obtain ⟨t, r, x, hrv⟩ : ∃ t r x, rv 200 b = (t, r, x) := ⟨_, _, _, rfl⟩
    have HRD := Lib.hid (fun p M W (hM : M ≤ W.heap.size) (hW : InW M W p b 0) => by have := get_walk 200 p b 1 W hM hW hl (by omega) (by omega); rwa [hrv] at this)
    obtain ⟨y, hy⟩ : ∃ y : Int, y = (if x = 0 ∧ r ≠ [] then 2 else x) := ⟨_, rfl⟩
    have HRE := Lib.hid (fun p M W (hW : InW M W p r x) => by have := end_any p r x W hW; rwa [← hy] at this)
    have HRV := Lib.hid hrv
    have HYC : Hid (y = 0 ↔ x = 0 ∧ r = []) := by rw [hy]; exact end_cases
    clear hrv hy
    by_cases hy0 : y = 0
    · subst hy0
      obtain ⟨rfl, rfl⟩ := HYC.out.1 rfl
      by_cases hrt : t.right 1 = true
      · have hd := Lib.hid (dec_ok hbig (by rw [HRV.out]) (by rw [HRV.out]) (by rw [HRV.out]; exact hrt))
        have HRT := Lib.hid hrt
        clear hrt
        go_enter Tryd.func24, Tryd.ntmps24
        go_wp2_with (first
          | (go_at_call 44; refine HOP.out.mono ?_; rintro e w4 ⟨p, M, rfl, hp4, hM4, hi4, hb4⟩; have I4 := Lib.hid hi4; have B4 := Lib.hid hb4; have M4 := Lib.hid hM4; have P4 : Hid (w.heap.size < p) := (by have h9 : w.heap.size + 1 ≤ p := (by simpa using hp4); exact h9); have z4 := (hb4.block w.heap.size (by simp)).trans (heap_alloc_new w Z4); have Z0 := Lib.hid z4; have B0 : Hid (Below w.heap.size w w4) := ((Below.refl w.heap.size w).alloc (Nat.le_refl _) Z4).trans (hb4.mono (by simp)); clear hp4 hM4 hi4 hb4 z4)
          | (go_at_call 45; refine (HRD.out p M _ M4.out I4.out).mono ?_; rintro e w5 ⟨v5, rfl, hv5, hi5, hc5⟩; obtain ⟨ao5, cap5, rfl⟩ := hv5.form; have d5 := dec_at (w := w) hc5 P4.out Z0.out B0.out hv5; have D6 := Lib.hid d5; have I6 := Lib.hid (InW.chg hi5 ((Chg.refl [] w5).alloc (.cells #[.int .i64 t.kind, .int .i64 t.num, .string t.text, .slice ao5 t.kids.length cap5] 24 (0, 0))) (by simp) (by simp)); have L4 := Lib.hid I4.out.lt; obtain ⟨s0, s1, s2, s3, s4⟩ := hdr4_cells d5.zq; obtain ⟨s5, s6, s7, s8, s9⟩ := hdr4_cells d5.zH; clear hv5 hi5 hc5 d5; unfold vval)
          | (go_at_call 46; refine (HRE.out _ _ _ I6.out).mono ?_; rintro e w7 ⟨rfl, hc7⟩; have d7 := D6.out.chg hc7 (by intro k hk; simp at hk; have := P4.out; have := L4.out; omega); obtain ⟨a0, a1, a2, a3, a4⟩ := hdr4_cells d7.zq; obtain ⟨b0, b1, b2, b3, b4⟩ := hdr4_cells d7.zH; have D7 := Lib.hid d7; clear hc7 d7)
          | (go_at_call 28; refine (right_walk t.sz t (vval t ao5 cap5) w7 _ 1 (Nat.le_refl _) D7.out.hv (fun x hx => hx.2) (by omega) (by omega)).mono ?_; rintro e w8 ⟨rfl, hb8⟩; rw [HRT.out]; have d8 := D7.out.below hb8; obtain ⟨c0, c1, c2, c3, c4⟩ := hdr4_cells d8.zq; obtain ⟨e0, e1, e2, e3, e4⟩ := hdr4_cells d8.zH; have D8 := Lib.hid d8; clear hb8 d8))
        all_goals
          obtain ⟨z1, z2⟩ := four_ret (y0 := .int .i64 t.kind) (y1 := .int .i64 t.num) (y2 := .string t.text) (y3 := .slice ao5 t.kids.length cap5) D8.out.zH
          generalize ((((w8.setCell _ _).setCell _ _).setCell _ _).setCell _ _) = wz at z1 z2 ⊢
          obtain ⟨y0, y1, y2, y3, _⟩ := hdr4_cells z1
          refine bodyPost_ret (v := .tuple #[vval t ao5 cap5, .int .i64 0]) (by simp [results, Tryd.results24, go_sem, y0, y1, y2, y3, vval]) rfl ?_
          exact dec_full (by rw [hd.out, HRV.out]) D8.out z2
      · have hrf : t.right 1 = false := by simpa using hrt
        have hd := Lib.hid (dec_no hbig (fun h => hrt (by have := h.2.2; rwa [HRV.out] at this)))
        have HRT := Lib.hid hrf
        clear hrt hrf
        go_enter Tryd.func24, Tryd.ntmps24
        go_wp2_with (first
          | (go_at_call 44; refine HOP.out.mono ?_; rintro e w4 ⟨p, M, rfl, hp4, hM4, hi4, hb4⟩; have I4 := Lib.hid hi4; have B4 := Lib.hid hb4; have M4 := Lib.hid hM4; have P4 : Hid (w.heap.size < p) := (by have h9 : w.heap.size + 1 ≤ p := (by simpa using hp4); exact h9); have z4 := (hb4.block w.heap.size (by simp)).trans (heap_alloc_new w Z4); have Z0 := Lib.hid z4; have B0 : Hid (Below w.heap.size w w4) := ((Below.refl w.heap.size w).alloc (Nat.le_refl _) Z4).trans (hb4.mono (by simp)); clear hp4 hM4 hi4 hb4 z4)
          | (go_at_call 45; refine (HRD.out p M _ M4.out I4.out).mono ?_; rintro e w5 ⟨v5, rfl, hv5, hi5, hc5⟩; obtain ⟨ao5, cap5, rfl⟩ := hv5.form; have d5 := dec_at (w := w) hc5 P4.out Z0.out B0.out hv5; have D6 := Lib.hid d5; have I6 := Lib.hid (InW.chg hi5 ((Chg.refl [] w5).alloc (.cells #[.int .i64 t.kind, .int .i64 t.num, .string t.text, .slice ao5 t.kids.length cap5] 24 (0, 0))) (by simp) (by simp)); have L4 := Lib.hid I4.out.lt; obtain ⟨s0, s1, s2, s3, s4⟩ := hdr4_cells d5.zq; obtain ⟨s5, s6, s7, s8, s9⟩ := hdr4_cells d5.zH; clear hv5 hi5 hc5 d5; unfold vval)
          | (go_at_call 46; refine (HRE.out _ _ _ I6.out).mono ?_; rintro e w7 ⟨rfl, hc7⟩; have d7 := D6.out.chg hc7 (by intro k hk; simp at hk; have := P4.out; have := L4.out; omega); obtain ⟨a0, a1, a2, a3, a4⟩ := hdr4_cells d7.zq; obtain ⟨b0, b1, b2, b3, b4⟩ := hdr4_cells d7.zH; have D7 := Lib.hid d7; clear hc7 d7)
          | (go_at_call 28; refine (right_walk t.sz t (vval t ao5 cap5) w7 _ 1 (Nat.le_refl _) D7.out.hv (fun x hx => hx.2) (by omega) (by omega)).mono ?_; rintro e w8 ⟨rfl, hb8⟩; rw [HRT.out]; have d8 := D7.out.below hb8; obtain ⟨c0, c1, c2, c3, c4⟩ := hdr4_cells d8.zq; obtain ⟨e0, e1, e2, e3, e4⟩ := hdr4_cells d8.zH; have D8 := Lib.hid d8; clear hb8 d8))
        all_goals
          obtain ⟨z1, z2⟩ := four_ret (y0 := .int .i64 0) (y1 := .int .i64 0) (y2 := .string ⟨#[]⟩) (y3 := .slice none 0 0) D8.out.zH
          generalize ((((w8.setCell _ _).setCell _ _).setCell _ _).setCell _ _) = wz at z1 z2 ⊢
          obtain ⟨y0, y1, y2, y3, _⟩ := hdr4_cells z1
          refine bodyPost_ret (v := .tuple #[.agg #[.int .i64 0, .int .i64 0, .string ⟨#[]⟩, .slice none 0 0], .int .i64 2]) (by simp [results, Tryd.results24, go_sem, y0, y1, y2, y3]) rfl ?_
          exact dec_zero hd.out (D8.out.stored z2)
    · have hq : (y == 0) = false := by simpa using hy0
      have hq2 : (y != 0) = true := by simp [bne, hq]
      have hd := Lib.hid (dec_no hbig (fun h => hy0 (HYC.out.2 (by rw [HRV.out] at h; exact ⟨h.1, h.2.1⟩))))
      go_enter Tryd.func24, Tryd.ntmps24
      go_wp2_with (first
        | (go_at_call 44; refine HOP.out.mono ?_; rintro e w4 ⟨p, M, rfl, hp4, hM4, hi4, hb4⟩; have I4 := Lib.hid hi4; have B4 := Lib.hid hb4; have M4 := Lib.hid hM4; have P4 : Hid (w.heap.size < p) := (by have h9 : w.heap.size + 1 ≤ p := (by simpa using hp4); exact h9); have z4 := (hb4.block w.heap.size (by simp)).trans (heap_alloc_new w Z4); have Z0 := Lib.hid z4; have B0 : Hid (Below w.heap.size w w4) := ((Below.refl w.heap.size w).alloc (Nat.le_refl _) Z4).trans (hb4.mono (by simp)); clear hp4 hM4 hi4 hb4 z4)
        | (go_at_call 45; refine (HRD.out p M _ M4.out I4.out).mono ?_; rintro e w5 ⟨v5, rfl, hv5, hi5, hc5⟩; obtain ⟨ao5, cap5, rfl⟩ := hv5.form; have d5 := dec_at (w := w) hc5 P4.out Z0.out B0.out hv5; have D6 := Lib.hid d5; have I6 := Lib.hid (InW.chg hi5 ((Chg.refl [] w5).alloc (.cells #[.int .i64 t.kind, .int .i64 t.num, .string t.text, .slice ao5 t.kids.length cap5] 24 (0, 0))) (by simp) (by simp)); have L4 := Lib.hid I4.out.lt; obtain ⟨s0, s1, s2, s3, s4⟩ := hdr4_cells d5.zq; obtain ⟨s5, s6, s7, s8, s9⟩ := hdr4_cells d5.zH; clear hv5 hi5 hc5 d5; unfold vval)
        | (go_at_call 46; refine (HRE.out _ _ _ I6.out).mono ?_; rintro e w7 ⟨rfl, hc7⟩; have d7 := D6.out.chg hc7 (by intro k hk; simp at hk; have := P4.out; have := L4.out; omega); obtain ⟨a0, a1, a2, a3, a4⟩ := hdr4_cells d7.zq; obtain ⟨b0, b1, b2, b3, b4⟩ := hdr4_cells d7.zH; have D7 := Lib.hid d7; clear hc7 d7))
      all_goals
        obtain ⟨z1, z2⟩ := four_ret (y0 := .int .i64 0) (y1 := .int .i64 0) (y2 := .string ⟨#[]⟩) (y3 := .slice none 0 0) D7.out.zH
        generalize ((((w7.setCell _ _).setCell _ _).setCell _ _).setCell _ _) = wz at z1 z2 ⊢
        obtain ⟨y0, y1, y2, y3, _⟩ := hdr4_cells z1
        refine bodyPost_ret (v := .tuple #[.agg #[.int .i64 0, .int .i64 0, .string ⟨#[]⟩, .slice none 0 0], .int .i64 2]) (by simp [results, Tryd.results24, go_sem, y0, y1, y2, y3]) rfl ?_
        exact dec_zero hd.out (D7.out.stored z2)
end Go.Proofs.YtofmbpmmgpbdbaaDoor
