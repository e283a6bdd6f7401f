/- What the calls of a heap come to, eighth part: Make without fields, and without room. -/
import Derived.Test.YtlbiapgikkjooaaHeapWalk7
namespace Go.Proofs.Ytlbiapgikkjooaa
open Go.RowKit Go.Maps Hp
set_option linter.unusedSimpArgs false
set_option linter.unusedVariables false
set_option linter.unusedSectionVars false

section
variable {A : AH} {φ : Nat → Nat} {w w' : World} {p bp np : Nat} {vc vs : Value} {cells stack : List Int} {pins : Int → Option Int}

set_option maxRecDepth 100000 in
set_option maxHeartbeats 3200000 in
theorem make_zero (h : HeapIs w p bp np vc vs A.limit cells stack pins) (hrep : Rep A φ cells stack pins) (hlim : A.limit ≤ 4194304) (hst : stack.length < 1000000000) (hnp : np < 1000000000) (kind : Nat) (hk : kind ≤ 1000) (hroom : A.live + 1 ≤ A.limit) :
    Calls Try.prog 16 #[.pointer (some ⟨p, 0, none⟩), .int .i64 kind, .int .i64 0] w (PutEnd A w p bp np vc vs ⟨kind, false, [], []⟩ 0) := by
  have hsl : stack.length = A.stack.length := by rw [hrep.stack, List.length_map]
  have RM := room_any h hrep hlim hst hnp 1 (by omega)
  obtain ⟨ao, scap, rfl, hsc, hsm, hnil, hsome⟩ := h.rs.form
  rw [ints_length, hsl] at hsc
  rw [ints_length, hsl] at h RM ⊢
  clear hnil hsome
  have c2 := h.c2
  have H := Lib.hid h
  have R := Lib.hid hrep
  have HS := Lib.hid hsl
  have hb00 : A.stack.length < 1000000000 := by omega
  clear h hrep hsl
  have hk0 : 0 ≤ (kind : Int) := by omega
  have hk1 : (kind : Int) ≤ 1000 := by omega
  have HRM := Lib.hid hroom
  have HST := Lib.hid hst
  have HK := Lib.hid hk
  have hw : wrap64 (A.stack.length : Int) = (A.stack.length : Int) := wrap_id _ (by omega) (by omega)
  have hor : bits .or .i64 0 (kind : Int) = (kind : Int) := by have := head_or 0 kind (by omega) (by omega); simpa using this
  clear hroom hst hk hb00
  obtain ⟨K, hK⟩ : ∃ K : Int, K = (kind : Int) := ⟨_, rfl⟩
  rw [← hK] at hk0 hk1 hor ⊢
  have HKK := Lib.hid hK
  have RM2 := Lib.hid RM
  clear RM hK
  go_enter Try.func16, Try.ntmps16
  go_wp2_with
    (first
    | ((go_at_call 46; refine RM2.out.mono ?_; rintro e w' ⟨vc', φ', cells', stack', pins', rfl, hH, hR, hle, hch, hwi⟩; rw [if_pos HRM.out];
            obtain ⟨co, ccap, rfl, hcc, hcm, _, _⟩ := hH.rc.form; rw [ints_length] at hcc hH hwi; have d1 := hH.c1; have d2 := hH.c2; have f1 := hH.fr 1; have HH := Lib.hid hH; have HR := Lib.hid hR; have HL := Lib.hid hle; have HC := Lib.hid hch; have HW := Lib.hid hwi; clear hH hR hle hch hwi))
    | (at_builtin; (refine wpList_app _ rfl _ _ 44 rfl 3 (.int .i64 0) 8 Try.underlying44 info3 rfl (.slice co cells'.length ccap) (ints cells') rfl (World.ownsRow.alloc HH.out.rc _) ⟨w'.heap.size, 0, none⟩ 1 1 [.int .i64 _] rfl (by omega) rfl (cell_one_new _ _ _) (ints_oneCell .i64 [_]) (by rw [ints_length]; have := HR.out.room; omega) (by omega) ?_; intro g cap w1 hr1 hg1 hl1; have hd1 := HH.out.cellsApp_hdr hg1; have f1' := hdr_free hd1 1; have e1 := hdr_cell1 hd1; have e2 := hdr_cell2 hd1; clear hd1)))
  all_goals
    try (have hq : scap = A.stack.length := by assumption
         subst hq)
    refine wp_loop_rounds 1 ?_
    rw [rounds_succ]
    obtain ⟨r1, r2, r3⟩ := HH.out.cellsApp_is (cells' := cells' ++ [K]) (v' := .slice (some ⟨g, 0, none⟩) ((ints cells').length + 1) cap) hg1 (by rw [ints_append]; exact hr1) (hl1.imp (fun e => e.symm) (fun e => by simp at e; simp [Value.ownBlock, e]))
    generalize w1.setCell ⟨p, 1, none⟩ (.slice (some ⟨g, 0, none⟩) ((ints cells').length + 1) cap) = wr at r1 r2 r3 ⊢
    have HH2 := Lib.hid r1
    have HC2 := Lib.hid (HC.out.trans r2 HW.out)
    have HW2 := Lib.hid (HW.out.trans r3 HC.out.size)
    have hg1s := hg1.size
    clear r1 r2 r3 hg1 hr1 hl1 e1 e2 f1' hor d1 d2 f1 hg1s
    have c2' := HH2.out.c2
    have f2 := HH2.out.fr 2
    have HRS := Lib.hid (HH2.out.rs.chg ((Chg.refl [] wr).drewN 1) (by simp))
    have HSL : Hid (stack'.length = A.stack.length) := by show _ = _; rw [HR.out.stack, List.length_map]
    have hb9 : 0 ≤ (cells'.length : Int) := by omega
    have hb10 : (cells'.length : Int) ≤ 4194304 := by have := HR.out.room; omega
    have a2 := fun o => (HH2.out.alloc o).c2
    go_wp2
    go_region_law (first
      | (refine step_app (by rfl) _ _ 74 rfl 22 (.int .i64 0) 8 Try.underlying74 infoW rfl _ (ints stack') (by rfl) (World.ownsRow.alloc HRS.out _) ⟨wr.heap.size, 0, none⟩ 1 1 [.int .i64 _] (by rfl) (by omega) rfl (cell_one_new _ _ _) (ints_oneCell .i64 [_]) (by rw [ints_length]; have := HST.out; have := HS.out; have := HSL.out; omega) (by omega) _ rfl ?_; intro g2 cap2 w2 hr2 hg2 hl2; have hd2 := (HH2.out.drewN 1).stackApp_hdr hg2; have f2' := hdr_free hd2 2; have e1' := hdr_cell2 hd2; clear hd2)
      | (refine step_call (by rfl) 47 #[.int .i64 cells'.length] _ (by go_simp) (object_any _ hb9 hb10 _) ?_))
    all_goals go_wp2
    all_goals go_ret
    all_goals
      exact put_end (φ := φ') (cells := cells') (low := stack'.length) (body := [K]) (by exact HRM.out) HR.out (fun r hr => by cases hr) ⟨HK.out, (fun h => by cases h), (fun _ => rfl)⟩ (by exact HL.out HRM.out)
        rfl (by rw [HKK.out]; simp [enc, head, body]) (HH2.out.drewN 1) (HC2.out.drewN 1) HW2.out rfl hg2 (by rw [List.take_length]; exact hr2) hl2
end
end Go.Proofs.Ytlbiapgikkjooaa
