/- Texts of the proof, in build order: DkCp. -/
import Derived.Test.YtcpgbekcbaelpaaGreatDoorF29
import Derived.Test.YtcpgbekcbaelpaaGreatDoorF17
set_option linter.unusedVariables false
set_option linter.unusedSimpArgs false
set_option linter.unusedSectionVars false
/- Layer 4: Copy. -/
namespace Go.Proofs.YtcpgbekcbaelpaaGreatDoor
open Go.RowKit Go.Shelf Go.Maps Wr
set_option linter.unusedVariables false
set_option linter.unusedSimpArgs false
set_option maxRecDepth 100000 in
set_option maxHeartbeats 1000000 in
theorem cloneRow_any {w : World} {gl cl : Nat} {vs : List Value} (hr : Row w 44 (.slice (some ⟨gl, 0, none⟩) vs.length cl) vs) (h1 : ∀ u ∈ vs, u.oneCell' = true) (hl : vs.length ≤ 65536) (hp : 1 ≤ vs.length) :
    Calls Tryz.prog 71 #[.slice (some ⟨gl, 0, none⟩) vs.length cl] w fun e w' => ∃ g' c', e = .returned (.slice (some ⟨g', 0, none⟩) vs.length c') ∧ w.heap.size ≤ g' ∧ Row w' 44 (.slice (some ⟨g', 0, none⟩) vs.length c') vs ∧ Below w.heap.size w w' := by
  have hb := (Below.refl w.heap.size w).alloc (Nat.le_refl _) (.cells #[] 44)
  have HR : Hid (RowZ (w.alloc (.cells #[] 44)) 44 1 (.slice (some ⟨gl, 0, none⟩) vs.length cl) vs.length vs) := RowZ.below hr hb (fun k hk => hr.lt hk)
  have HB := Lib.hid hb
  have H1 := Lib.hid h1
  have HL := Lib.hid hl
  have HP := Lib.hid hp
  have hq := Lib.run_eql_slice_nil (P := Tryz.prog) w 112 44 (some ⟨gl, 0, none⟩) vs.length cl 0 0 Tryz.underlying112
  clear hr h1 hl hp hb
  go_enter Tryz.func71, Tryz.ntmps71
  go_wp2_with (at_builtin; go_loud (refine wpList_rows (v := .slice (some ⟨w.heap.size, 0, none⟩) 0 0) (n := 0) (m := vs.length) (news := vs) (xs := []) rfl _ _ 112 rfl Tryz.underlying112 infoRow rfl (by omega) rfl (RowZ.none0 w 44 1) rfl (Gives.of_row HR.out) (by omega) H1.out (by have := HL.out; omega) (by omega) ?_; intro ao cp w1 hr1 ha1; rw [Nat.zero_add, List.nil_append] at hr1; rw [Nat.zero_add] at ha1 ⊢; have HR1 := Lib.hid hr1; have HA1 : Hid (Appended (w.alloc (.cells #[] 44)) (.slice (some ⟨w.heap.size, 0, none⟩) 0 0) w1 (.slice ao vs.length cp)) := ha1; clear hr1 ha1))
  go_ret
  have hr1 := HR1.out
  have ha1 := HA1.out
  obtain ⟨ao', cap', e, _, _, hn, hs⟩ := hr1.form
  cases e
  have hz : (w.alloc (.cells #[] 44)).heap.size = w.heap.size + 1 := by simp
  have hp := HP.out
  cases ao with
  | none => have := (hn rfl).1; omega
  | some a =>
    obtain ⟨g', rfl, hg, hgb⟩ := hs a rfl
    have ho : g' = w.heap.size ∨ g' = (w.alloc (.cells #[] 44)).heap.size := by
      rcases ha1.2 with e | e
      · exact .inl (Option.some.inj (hgb.symm.trans e))
      · exact .inr (Option.some.inj (hgb.symm.trans e))
    have hb1 : Below w.heap.size w w1 := HB.out.trans (ha1.chg.below (by omega) (fun k hk => by
      have : k = w.heap.size := by simpa [Value.ownBlock] using hk
      omega))
    exact ⟨g', _, rfl, by omega, hr1, hb1⟩
theorem BIn.one {w : World} {A : Nat → Prop} {v : Value} {b : List UInt8} (h : BIn w A v b) : v.oneCell' = true := by
  obtain ⟨ao, cap, rfl, _⟩ := h
  rfl
theorem SecIs.one {w : World} {A : Nat → Prop} {v : Value} {b : List UInt8} (h : SecIs w A v b) : v.oneCell' = true := by
  rcases h with ⟨rfl, _⟩ | ⟨_, h⟩
  · rfl
  · exact h.one
set_option maxRecDepth 100000 in
set_option maxHeartbeats 2000000 in
theorem dkCopy_any {w : World} {g : Nat} {D : St.Dk} {M R : Nat → Prop} (h : DkAt w g D M R) (hp : 1 ≤ D.last.length) :
    Calls Tryz.prog 27 #[.pointer (some ⟨g, 0, none⟩)] w fun e w' => ∃ g', e = .returned (.pointer (some ⟨g', 0, none⟩)) ∧ Below w.heap.size w w' ∧ DkAt w' g' D.copy (fun k => w.heap.size ≤ k ∧ k < w'.heap.size) R := by
  obtain ⟨gl, cl, gm, vw, sx, vs, ws, h⟩ := h
  obtain ⟨c0, _⟩ := cells6 h.blk
  have hl := h.len
  have HC := Lib.hid (cloneRow_any h.row (fun u hu => by
    obtain ⟨i, hi⟩ := List.mem_iff_getElem?.1 hu
    exact (h.secs i u hi).one) h.big (by omega))
  have HH := Lib.hid h
  have hmm := @run_makeMap Tryz.prog
  clear h hl hp
  go_enter Tryz.func27, Tryz.ntmps27
  go_wp2_with (go_at_call 71; go_loud ((with_reducible refine HC.out.mono ?_); rintro e w1 ⟨g', c', rfl, hg, hr, hb⟩; have HG := Lib.hid hg; have HR := Lib.hid hr; have HB := Lib.hid hb; clear hg hr hb))
  go_ret
  have hz := HB.out.size
  have hd := dk_fresh (R := R) (N := w.heap.size) HR.out HH.out.len HH.out.big (fun i v hv => (((HH.out.secs i v hv).mono (A' := fun k => R k ∧ k < w.heap.size) (fun k hl hk => ⟨hk.1, hl⟩)).turn (M := fun _ => False) (Turn.of_below HB.out) (fun _ _ h => h)).mono (fun k _ hk => ⟨hk.1, fun e => by have := HG.out; have := hk.2; omega⟩)) HG.out
  have hD : DkAt _ (w1.heap.size + 1) D.copy (fun k => w.heap.size ≤ k) R := ⟨_, _, _, _, _, _, _, hd⟩
  exact ⟨w1.heap.size + 1, rfl, (HB.out.alloc hz _).alloc (by simp; omega) _, hD.mono (fun k hk h => ⟨h, hk⟩) (fun k _ h => h)⟩
end Go.Proofs.YtcpgbekcbaelpaaGreatDoor
