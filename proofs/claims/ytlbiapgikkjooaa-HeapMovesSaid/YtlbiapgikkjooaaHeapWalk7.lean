/- What the calls of a heap come to, seventh part: Make. -/
import Derived.Test.YtlbiapgikkjooaaHeapWalk6
import Derived.Deep.RegionLaw
namespace Go.Proofs.Ytlbiapgikkjooaa
open Go.RowKit Go.Maps Hp
set_option linter.unusedSimpArgs false
set_option linter.unusedVariables false
set_option linter.unusedSectionVars false

/-- A call that hands back a value and leaves the world as it is, at a step of a region that draws its order. -/
theorem step_call {P : Program} {ops : Array Oper} {o : Oper} {a : Act} {w : World} {K : Act → World → Prop} {Q : Exit → Act → World → Prop} {E : Prop} (hgd : o.guard = none) (f : FuncId) (args : Array Value) (v : Value)
    (hrun : (execOp a.eval o).run P w = .ok (.enter f args) w) (hc : Calls P f args w fun e w' => e = .returned v ∧ w = w') (hK : K (a.put o.dst v) w) : if Region.wanted o (yielded ops a.tmps) = true then Oper.wp P o a w K Q else E := by
  have hw : Region.wanted o (yielded ops a.tmps) = true := by simp [Region.wanted, hgd]
  rw [if_pos hw]
  unfold Oper.wp
  rw [hrun]
  simp only [Oper.upon]
  refine hc.mono ?_
  rintro e w' ⟨rfl, rfl⟩
  exact hK

section
variable {A : AH} {φ : Nat → Nat} {w w' : World} {p bp np : Nat} {vc vs : Value} {cells stack : List Int} {pins : Int → Option Int}

theorem make_body {low n kind : Nat} (hst : stack = A.stack.map (word φ)) (hlow : A.stack.length = low + n) : ((n : Int) * 2048 + (kind : Int)) :: stack.drop low = enc φ ⟨kind, false, A.stack.drop (A.stack.length - n), []⟩ := by
  have e : A.stack.length - n = low := by omega
  unfold enc head body
  simp only [Bool.false_eq_true, if_false, e, List.length_drop]
  rw [hst, ← List.map_drop, hlow, show low + n - low = n by omega]

set_option maxRecDepth 100000 in
set_option maxHeartbeats 3200000 in
theorem make_pos (h : HeapIs w p bp np vc vs A.limit cells stack pins) (hrep : Rep A φ cells stack pins) (hlim : A.limit ≤ 4194304) (hst : stack.length < 1000000000) (hnp : np < 1000000000) (kind n : Nat) (hk : kind ≤ 1000) (hn : n ≤ A.stack.length) (h0 : 0 < n) (hroom : A.live + (1 + n) ≤ A.limit) :
    Calls Try.prog 16 #[.pointer (some ⟨p, 0, none⟩), .int .i64 kind, .int .i64 n] w (PutEnd A w p bp np vc vs ⟨kind, false, A.stack.drop (A.stack.length - n), []⟩ n) := by
  have hsl : stack.length = A.stack.length := by rw [hrep.stack, List.length_map]
  have hsz : (⟨kind, false, A.stack.drop (A.stack.length - n), []⟩ : Ob).size = 1 + n := by simp [Ob.size]; omega
  have HSZ := Lib.hid hsz
  clear hsz
  have RM := room_any h hrep hlim hst hnp (1 + n) (by omega)
  obtain ⟨ao, scap, rfl, hsc, hsm, hnil, hsome⟩ := h.rs.form
  rw [ints_length, hsl] at hsc
  rw [ints_length, hsl] at h RM ⊢
  have c2 := h.c2
  have H := Lib.hid h
  have R := Lib.hid hrep
  have HS := Lib.hid hsl
  have hb0 : (n : Int) ≤ (A.stack.length : Int) := by omega
  have hb00 : (A.stack.length : Int) < 1000000000 := by omega
  obtain ⟨gs, hgs⟩ : ∃ gs, ao = some ⟨gs, 0, none⟩ := by
    cases ao with
    | none => have := (hnil rfl).1; have h2 : (ints stack).length = 0 := by rw [this]; rfl
              rw [ints_length] at h2; omega
    | some a => obtain ⟨g, e, _⟩ := hsome a rfl; exact ⟨g, by rw [e]⟩
  clear hnil hsome
  subst hgs
  clear h hrep hsl
  have RM' : Calls Try.prog 46 #[.pointer (some ⟨p, 0, none⟩), .int .i64 (1 + (n : Int))] w (RoomEnd A w p bp np vc (.slice (some ⟨gs, 0, none⟩) A.stack.length scap) (1 + n)) := by
    have e1 : (1 : Int) + (n : Int) = ((1 + n : Nat) : Int) := by omega
    rw [e1]; exact RM
  clear RM
  have hn0 : 0 ≤ (n : Int) := by omega
  have hn1 : (n : Int) ≤ 4194304 := by omega
  have hk0 : 0 ≤ (kind : Int) := by omega
  have hk1 : (kind : Int) ≤ 1000 := by omega
  have HRM := Lib.hid hroom
  have HN := Lib.hid hn
  have HST := Lib.hid hst
  have HK := Lib.hid hk
  clear hroom hn hst hk
  obtain ⟨low, hlow⟩ : ∃ low, A.stack.length = low + n := ⟨A.stack.length - n, by have := HN.out; omega⟩
  have hw : wrap64 ((A.stack.length : Int) - (n : Int)) = (low : Int) := by rw [show (A.stack.length : Int) - (n : Int) = low by omega]; exact wrap_id _ (by omega) (by omega)
  have hor := head_or n kind (by omega) (by have := HK.out; omega)
  have hlo0 : 0 ≤ (low : Int) := by omega
  have hlo1 : (low : Int) ≤ (A.stack.length : Int) := by omega
  have hsub : A.stack.length - low = n := by omega
  have hcl : ¬ scap = low := by omega
  have HLOW := Lib.hid hlow
  have H0 := Lib.hid h0
  clear h0
  clear hlow
  obtain ⟨K, hK⟩ : ∃ K : Int, K = (kind : Int) := ⟨_, rfl⟩
  obtain ⟨N, hN⟩ : ∃ N : Int, N = (n : Int) := ⟨_, rfl⟩
  rw [← hK] at hk0 hk1 hor ⊢
  rw [← hN] at hn0 hn1 hw hor hb0 RM' ⊢
  have HKK := Lib.hid hK
  have HNN := Lib.hid hN
  have RM2 := Lib.hid RM'
  clear RM' hK hN hb00
  go_enter Try.func16, Try.ntmps16
  go_wp2_with
    (first
    | ((go_at_call 46; refine RM2.out.mono ?_; rintro e w' ⟨vc', φ', cells', stack', pins', rfl, hH, hR, hle, hch, hwi⟩; rw [if_pos HRM.out];
            obtain ⟨co, ccap, rfl, hcc, hcm, _, _⟩ := hH.rc.form; rw [ints_length] at hcc hH hwi; have d1 := hH.c1; have d2 := hH.c2; have f1 := hH.fr 1; have HH := Lib.hid hH; have HR := Lib.hid hR; have HL := Lib.hid hle; have HC := Lib.hid hch; have HW := Lib.hid hwi; clear hH hR hle hch hwi))
    | (at_builtin; (refine wpList_app _ rfl _ _ 44 rfl 3 (.int .i64 0) 8 Try.underlying44 info3 rfl (.slice co cells'.length ccap) (ints cells') rfl (World.ownsRow.alloc HH.out.rc _) ⟨w'.heap.size, 0, none⟩ 1 1 [.int .i64 _] rfl (by omega) rfl (cell_one_new _ _ _) (ints_oneCell .i64 [_]) (by rw [ints_length]; have := HR.out.room; omega) (by omega) ?_; intro g cap w1 hr1 hg1 hl1; have hd1 := HH.out.cellsApp_hdr hg1; have f1' := hdr_free hd1 1; have e1 := hdr_cell1 hd1; have e2 := hdr_cell2 hd1; clear hd1)))
  obtain ⟨hd, hhd⟩ : ∃ hd, hd = N * 2048 + K := ⟨_, rfl⟩
  rw [← hhd] at hg1 hr1 hl1 ⊢
  have HHD := Lib.hid hhd
  clear hhd hor
  have HM := Lib.hid (makeLoop_start (news := stack'.drop low) HH.out HC.out HW.out hg1 hr1 hl1)
  have hnl : (stack'.drop low).length = n := by rw [List.length_drop, HR.out.stack, List.length_map]; have := HLOW.out; omega
  have HNL := Lib.hid hnl
  rw [hnl] at HM
  obtain ⟨base, hbase⟩ : ∃ base, base = cells' ++ [hd] := ⟨_, rfl⟩
  rw [← hbase] at HM
  have hbl : base.length = cells'.length + 1 := by rw [hbase, List.length_append]; rfl
  have HBL := Lib.hid hbl
  have HBS := Lib.hid hbase
  clear hbl hbase
  rw [hw]
  clear hnl hg1 hr1 hl1 e1 e2 f1 d1 d2
  go_loopg [74] n (fun k s wr => MakeLoop w p bp np vc (.slice (some ⟨gs, 0, none⟩) A.stack.length scap) A.limit base stack' (stack'.drop low) pins' k s wr)
  case atStart => exact HM.out
  case round =>
    clear HM
    obtain ⟨i, vc2, hik, rfl, hH, hch, hwi⟩ := hrel
    rw [HNL.out] at hik
    have HH2 := Lib.hid hH
    have HC2 := Lib.hid hch
    have HW2 := Lib.hid hwi
    clear hH hch hwi
    by_cases hlt : i < n
    · obtain ⟨x, hx⟩ : ∃ x, (stack'.drop low)[i]? = some x := ⟨_, List.getElem?_eq_getElem (by rw [HNL.out]; exact hlt)⟩
      have cx : wr.cell? ⟨gs, low + i, none⟩ = some (.int .i64 x) := by
        rw [List.getElem?_drop] at hx
        have := HH2.out.rs.cellAt (low + i) (by rw [ints_length]; exact (List.getElem?_eq_some_iff.1 hx).1)
        rw [ints_get, hx] at this
        exact this
      have hb1 : 0 ≤ (i : Int) := by omega
      have hb2 : (i : Int) < (n : Int) := by omega
      have c1 := HH2.out.c1
      have hn6 := HNN.out
      have hn7 : n ≤ 4194304 := by omega
      have HX := Lib.hid hx
      clear hx hn6
      go_wp2_with (at_builtin; (refine wpList_app _ rfl _ _ 44 rfl 3 (.int .i64 0) 8 Try.underlying44 info3 rfl vc2 _ rfl (World.ownsRow.alloc HH2.out.rc _) ⟨wr.heap.size, 0, none⟩ 1 1 [.int .i64 _] rfl (by omega) rfl (cell_one_new _ _ _) (ints_oneCell .i64 [_]) (by rw [ints_length, List.length_append, List.length_take, HBL.out]; have := HR.out.room; omega) (by omega) ?_; intro g2 cap2 w2 hr2 hg2 hl2; have hd2 := HH2.out.cellsApp_hdr hg2; have f2' := hdr_free hd2 1; have e1' := hdr_cell1 hd2; clear hd2))
      go_roundg (gk - 1)
      case measure => omega
      case rel => exact makeLoop_next HH2.out HC2.out HW2.out HX.out (by rw [HNL.out]; omega) hg2 hr2 hl2
    · obtain rfl : i = n := by omega
      have ht : (stack'.drop low).take i = stack'.drop low := List.take_of_length_le (by rw [HNL.out]; exact Nat.le_refl _)
      rw [ht] at HH2
      have c2 := HH2.out.c2
      have f2 := HH2.out.fr 2
      have hob := ownBlock_slice (some ⟨gs, 0, none⟩) low A.stack.length scap
      have hsl' : stack'.length = A.stack.length := by rw [HR.out.stack, List.length_map]
      have hll : (stack'.take low).length = low := by rw [List.length_take]; have := HLOW.out; omega
      have HRS : Hid (Row wr.drew 22 (.slice (some ⟨gs, 0, none⟩) low scap) (ints (stack'.take low))) := by
        have h1 := HH2.out.rs.chg ((Chg.refl [] _).drewN 1) (by simp)
        have h2 := h1.takeAny low (by rw [ints_length]; have := HLOW.out; omega)
        unfold ints at h2 ⊢
        rw [← List.map_take] at h2
        exact h2
      have HLL := Lib.hid hll
      have HOB := Lib.hid hob
      have HSL := Lib.hid hsl'
      have hcl2 : (low : Int) ≤ (scap : Int) := by omega
      have hb9 : 0 ≤ (cells'.length : Int) := by omega
      have hb10 : (cells'.length : Int) ≤ 4194304 := by have := HR.out.room; omega
      have a2 : ∀ o, (wr.alloc o).cell? ⟨p, 2, none⟩ = some (.slice (some ⟨gs, 0, none⟩) A.stack.length scap) := fun o => (HH2.out.alloc o).c2
      clear ht hob hsl' hll
      go_wp2
      go_region_law (first
        | (refine step_app (by rfl) _ _ 74 rfl 22 (.int .i64 0) 8 Try.underlying74 infoW rfl (.slice (some ⟨gs, 0, none⟩) low scap) (ints (stack'.take low)) (by rfl) (World.ownsRow.alloc HRS.out _) ⟨wr.heap.size, 0, none⟩ 1 1 [.int .i64 _] (by rfl) (by omega) rfl (cell_one_new _ _ _) (ints_oneCell .i64 [_]) (by rw [ints_length, HLL.out]; have := HST.out; have := HS.out; omega) (by omega) _ rfl ?_; intro g2 cap2 w2 hr2 hg2 hl2; have hg2' := hg2; rw [HOB.out] at hg2'; have hd2 := (HH2.out.drewN 1).stackApp_hdr hg2'; have f2' := hdr_free hd2 2; have e1' := hdr_cell2 hd2; clear hd2 hg2')
        | (refine step_call (by rfl) 47 #[.int .i64 cells'.length] _ (by go_simp) (object_any _ hb9 hb10 _) ?_))
      all_goals go_wp2
      all_goals go_ret
      all_goals
        exact put_end (φ := φ') (cells := cells') (body := hd :: stack'.drop low) (by rw [HSZ.out]; exact HRM.out) HR.out (fun r hr => R.out.wf.ok_root (.inl (List.mem_of_mem_drop hr))) ⟨HK.out, (fun h => by cases h), (fun _ => rfl)⟩ (by rw [HSZ.out]; exact HL.out HRM.out)
          (by rw [HSL.out]; have := HLOW.out; omega) (by rw [HHD.out, HNN.out, HKK.out]; exact make_body HR.out.stack HLOW.out) (by have h := HH2.out.drewN 1; rw [HBS.out, List.append_assoc] at h; exact h) (HC2.out.drewN 1) HW2.out HOB.out hg2 hr2 hl2
end
end Go.Proofs.Ytlbiapgikkjooaa
