/- The program's fits: a node in form, but for its kids. -/
import Derived.Test.YtofmbpmmgpbdbaaDoorPut4
import Derived.Deep.RegionLaw
import Derived.Deep.RegionHeld3
namespace Go.Proofs.YtofmbpmmgpbdbaaDoor
open Go.RowKit Go.Maps Wr
set_option linter.unusedVariables false

def bareB (x y : Bool) (n : Int) (s : ByteArray) (m : Nat) : Bool := (x || decide (n = 0)) && (y || emptyB s) && decide (m = 0)
section
variable (n : Int) (s : ByteArray) (ao : Option Addr) (m cap : Nat) (w : World)
set_option maxRecDepth 100000 in
set_option maxHeartbeats 1600000 in
theorem bare_any (k : Int) (x y : Bool) (hs : s.size ≤ maxLen) (hm : m ≤ cap) (hcap : cap ≤ maxLen) :
    Calls Tryd.prog 73 #[.agg #[.int .i64 k, .int .i64 n, .string s, .slice ao m cap], .bool x, .bool y] w fun e w' => e = .returned (.bool (bareB x y n s m)) ∧ Below w.heap.size w w' := by
  have hE1 := empty1 s
  have hE2 := empty2 s
  unfold maxLen at hs hcap
  cases x <;> cases y
  all_goals
    go_enter Tryd.func73, Tryd.ntmps73
    go_wp2
  all_goals
    go_ret
    refine ⟨ret_bool ?_, (Below.refl _ _).alloc (Nat.le_refl _) _⟩
    rw [Bool.eq_iff_iff]
    simp [bareB, *]
    try omega
    try (first | exact fun _ => hq | exact fun _ _ => hq | (intros; simp_all))
theorem step_callg {P : Program} {ops : Array Oper} {o : Oper} {a : Act} {w : World} {K : Act → World → Prop} {Q : Exit → Act → World → Prop} {E : Prop} {R : Ending → World → Prop} (hw : Region.wanted o (yielded ops a.tmps) = true) (f : FuncId) (args : Array Value)
    (hrun : (execOp a.eval o).run P w = .ok (.enter f args) w) (hc : Calls P f args w R) (hK : ∀ e w', R e w' → ∃ v, e = .returned v ∧ K (a.put o.dst v) w') : if Region.wanted o (yielded ops a.tmps) = true then Oper.wp P o a w K Q else E := by
  rw [if_pos hw]
  unfold Oper.wp
  rw [hrun]
  simp only [Oper.upon]
  refine hc.mono ?_
  intro e w' h
  obtain ⟨v, rfl, hk⟩ := hK e w' h
  exact hk
theorem cells_below {w w5 : World} {a b c d : Value} {t : TypeId} (h : Below (w.alloc (.cells #[a, b, c, d] t)).heap.size (w.alloc (.cells #[a, b, c, d] t)) w5) :
    w5.cell? ⟨w.heap.size, 0, none⟩ = some a ∧ w5.cell? ⟨w.heap.size, 1, none⟩ = some b ∧ w5.cell? ⟨w.heap.size, 2, none⟩ = some c ∧ w5.cell? ⟨w.heap.size, 3, none⟩ = some d ∧ Below w.heap.size w w5 := by
  have hb := (h.block w.heap.size (by simp)).trans (heap_alloc_new w _)
  refine ⟨?_, ?_, ?_, ?_, ((Below.refl _ _).alloc (Nat.le_refl _) _).trans (h.mono (by simp))⟩ <;> simp [World.cell?, hb]
theorem cells_below' {w w5 : World} {a b c d : Value} {t : TypeId} (h : Below (w.alloc (.cells #[a, b, c, d] t)).drew.heap.size (w.alloc (.cells #[a, b, c, d] t)).drew w5) :
    w5.cell? ⟨w.heap.size, 0, none⟩ = some a ∧ w5.cell? ⟨w.heap.size, 1, none⟩ = some b ∧ w5.cell? ⟨w.heap.size, 2, none⟩ = some c ∧ w5.cell? ⟨w.heap.size, 3, none⟩ = some d ∧ Below w.heap.size w w5 :=
  cells_below ((Below.refl _ _).drew.trans h)
set_option maxRecDepth 100000 in
set_option maxHeartbeats 1600000 in
theorem valFits_3 (hs : s.size ≤ maxLen) (hm : m ≤ cap) (hcap : cap ≤ maxLen) :
    Calls Tryd.prog 50 #[.agg #[.int .i64 3, .int .i64 n, .string s, .slice ao m cap]] w fun e w' => e = .returned (.bool (fitsB 3 n s m)) ∧ Below w.heap.size w w' := by
  have hE1 := empty1 s
  have hE2 := empty2 s
  unfold maxLen at hs hcap
  go_enter Tryd.func50, Tryd.ntmps50
  go_wp2
  all_goals
    go_ret
    refine ⟨ret_bool ?_, (Below.refl _ _).alloc (Nat.le_refl _) _⟩
    rw [Bool.eq_iff_iff]
    simp [fitsB, *]
    try omega
    try (first | exact fun _ => hq | exact fun _ _ => hq | (intros; simp_all))
set_option maxRecDepth 100000 in
set_option maxHeartbeats 1600000 in
theorem valFits_4 (hs : s.size ≤ maxLen) (hm : m ≤ cap) (hcap : cap ≤ maxLen) :
    Calls Tryd.prog 50 #[.agg #[.int .i64 4, .int .i64 n, .string s, .slice ao m cap]] w fun e w' => e = .returned (.bool (fitsB 4 n s m)) ∧ Below w.heap.size w w' := by
  have hE1 := empty1 s
  have hE2 := empty2 s
  unfold maxLen at hs hcap
  go_enter Tryd.func50, Tryd.ntmps50
  go_wp2
  all_goals
    go_ret
    refine ⟨ret_bool ?_, (Below.refl _ _).alloc (Nat.le_refl _) _⟩
    rw [Bool.eq_iff_iff]
    simp [fitsB, *]
    try omega
    try (first | exact fun _ => hq | exact fun _ _ => hq | (intros; simp_all))
set_option maxRecDepth 100000 in
set_option maxHeartbeats 1600000 in
theorem valFits_2 (hs : s.size ≤ maxLen) (hm : m ≤ cap) (hcap : cap ≤ maxLen) :
    Calls Tryd.prog 50 #[.agg #[.int .i64 2, .int .i64 n, .string s, .slice ao m cap]] w fun e w' => e = .returned (.bool (fitsB 2 n s m)) ∧ Below w.heap.size w w' := by
  have hE1 := empty1 s
  have hE2 := empty2 s
  have HB := Lib.hid (fun W => bare_any n s ao m cap W 2 false true hs hm hcap)
  unfold maxLen at hs hcap
  cases hb : bareB false true n s m
  all_goals
    rw [hb] at HB
    have HQ := Lib.hid hb
    clear hb
    go_enter Tryd.func50, Tryd.ntmps50
    go_wp2_with ((go_at_call 73; refine (HB.out _).mono ?_; rintro e w5 ⟨rfl, hb5⟩; obtain ⟨c0, c1, c2, c3, hb6⟩ := cells_below hb5; have H6 := Lib.hid hb6; clear hb5 hb6))
  all_goals
    go_ret
    refine ⟨ret_bool ?_, H6.out⟩
    have hq := HQ.out
    simp [bareB] at hq
    rw [Bool.eq_iff_iff]
    simp [fitsB, *]
    try omega
    try (first | exact fun _ => hq | exact fun _ _ => hq | (intros; simp_all))
set_option maxRecDepth 100000 in
set_option maxHeartbeats 1600000 in
theorem valFits_5 (hs : s.size ≤ maxLen) (hm : m ≤ cap) (hcap : cap ≤ maxLen) :
    Calls Tryd.prog 50 #[.agg #[.int .i64 5, .int .i64 n, .string s, .slice ao m cap]] w fun e w' => e = .returned (.bool (fitsB 5 n s m)) ∧ Below w.heap.size w w' := by
  have hE1 := empty1 s
  have hE2 := empty2 s
  have HB := Lib.hid (fun W => bare_any n s ao m cap W 5 true false hs hm hcap)
  unfold maxLen at hs hcap
  cases hb : bareB true false n s m
  all_goals
    rw [hb] at HB
    have HQ := Lib.hid hb
    clear hb
    go_enter Tryd.func50, Tryd.ntmps50
    go_wp2_with ((go_at_call 73; refine (HB.out _).mono ?_; rintro e w5 ⟨rfl, hb5⟩; obtain ⟨c0, c1, c2, c3, hb6⟩ := cells_below hb5; have H6 := Lib.hid hb6; clear hb5 hb6))
  all_goals
    go_ret
    refine ⟨ret_bool ?_, H6.out⟩
    have hq := HQ.out
    simp [bareB] at hq
    rw [Bool.eq_iff_iff]
    simp [fitsB, *]
    try omega
    try (first | exact fun _ => hq | exact fun _ _ => hq | (intros; simp_all))
set_option maxRecDepth 100000 in
set_option maxHeartbeats 1600000 in
theorem valFits_6 (hs : s.size ≤ maxLen) (hm : m ≤ cap) (hcap : cap ≤ maxLen) :
    Calls Tryd.prog 50 #[.agg #[.int .i64 6, .int .i64 n, .string s, .slice ao m cap]] w fun e w' => e = .returned (.bool (fitsB 6 n s m)) ∧ Below w.heap.size w w' := by
  have hE1 := empty1 s
  have hE2 := empty2 s
  have HB := Lib.hid (fun W => bare_any n s ao m cap W 6 false false hs hm hcap)
  unfold maxLen at hs hcap
  cases hb : bareB false false n s m
  all_goals
    rw [hb] at HB
    have HQ := Lib.hid hb
    clear hb
    go_enter Tryd.func50, Tryd.ntmps50
    go_wp2_with ((go_at_call 73; refine (HB.out _).mono ?_; rintro e w5 ⟨rfl, hb5⟩; obtain ⟨c0, c1, c2, c3, hb6⟩ := cells_below hb5; have H6 := Lib.hid hb6; clear hb5 hb6))
  all_goals
    go_ret
    refine ⟨ret_bool ?_, H6.out⟩
    have hq := HQ.out
    simp [bareB] at hq
    rw [Bool.eq_iff_iff]
    simp [fitsB, *]
    try omega
    try (first | exact fun _ => hq | exact fun _ _ => hq | (intros; simp_all))
set_option maxRecDepth 100000 in
set_option maxHeartbeats 1600000 in
theorem valFits_0 (hs : s.size ≤ maxLen) (hm : m ≤ cap) (hcap : cap ≤ maxLen) :
    Calls Tryd.prog 50 #[.agg #[.int .i64 0, .int .i64 n, .string s, .slice ao m cap]] w fun e w' => e = .returned (.bool (fitsB 0 n s m)) ∧ Below w.heap.size w w' := by
  have hE1 := empty1 s
  have hE2 := empty2 s
  have HB := Lib.hid (fun W => bare_any n s ao m cap W 0 true false hs hm hcap)
  have HS := Lib.hid hs
  unfold maxLen at hs hcap
  cases hb : bareB true false n s m
  · rw [hb] at HB
    have HQ := Lib.hid hb
    clear hb
    go_enter Tryd.func50, Tryd.ntmps50
    go_wp2
    first | go_region_law ((refine step_callw (by rfl) 73 #[.agg #[.int .i64 0, .int .i64 n, .string s, .slice ao m cap], .bool true, .bool false] ?_ (HB.out _) ?_; go_simp; rintro e w5 ⟨rfl, hb5⟩; refine ⟨.bool false, rfl, ?_⟩; obtain ⟨c0, c1, c2, c3, hb6⟩ := cells_below' hb5; have H6 := Lib.hid hb6; clear hb5 hb6)) | fail
    go_wp2
    all_goals
      go_ret
      refine ⟨ret_bool ?_, H6.out⟩
      have hq := HQ.out
      simp [bareB] at hq
      rw [Bool.eq_iff_iff]
      simp [fitsB, *]
      try omega
      try (first | exact fun _ => hq | exact fun _ _ => hq | (intros; simp_all))
  · rw [hb] at HB
    have HQ := Lib.hid hb
    clear hb
    go_enter Tryd.func50, Tryd.ntmps50
    go_wp2
    go_region_law (first
      | (refine step_callw (by rfl) 73 #[.agg #[.int .i64 0, .int .i64 n, .string s, .slice ao m cap], .bool true, .bool false] ?_ (HB.out _) ?_; go_simp; rintro e w5 ⟨rfl, hb5⟩; refine ⟨.bool true, rfl, ?_⟩; obtain ⟨c0, c1, c2, c3, hb6⟩ := cells_below' hb5; have H6 := Lib.hid hb6; clear hb5 hb6)
      | (refine step_callg (by rfl) 59 #[.int .i64 n] ?_ (wrap_any _ _) ?_; go_simp; rintro e w6 ⟨rfl, rfl⟩; refine ⟨.int .i64 (wr n), rfl, ?_⟩))
    all_goals go_wp2
    all_goals
      go_ret
      refine ⟨ret_bool ?_, H6.out⟩
      have hq := HQ.out
      simp [bareB] at hq
      rw [Bool.eq_iff_iff]
      simp [fitsB, *]
      try omega
      try (first | exact fun _ => hq | exact fun _ _ => hq | (intros; simp_all))
set_option maxRecDepth 100000 in
set_option maxHeartbeats 1600000 in
theorem valFits_1 (hs : s.size ≤ maxLen) (hm : m ≤ cap) (hcap : cap ≤ maxLen) :
    Calls Tryd.prog 50 #[.agg #[.int .i64 1, .int .i64 n, .string s, .slice ao m cap]] w fun e w' => e = .returned (.bool (fitsB 1 n s m)) ∧ Below w.heap.size w w' := by
  have hE1 := empty1 s
  have hE2 := empty2 s
  have HB := Lib.hid (fun W => bare_any n s ao m cap W 1 false true hs hm hcap)
  have HS := Lib.hid hs
  unfold maxLen at hs hcap
  cases hb : bareB false true n s m
  · rw [hb] at HB
    have HQ := Lib.hid hb
    clear hb
    go_enter Tryd.func50, Tryd.ntmps50
    go_wp2
    first | go_region_law ((refine step_callw (by rfl) 73 #[.agg #[.int .i64 1, .int .i64 n, .string s, .slice ao m cap], .bool false, .bool true] ?_ (HB.out _) ?_; go_simp; rintro e w5 ⟨rfl, hb5⟩; refine ⟨.bool false, rfl, ?_⟩; obtain ⟨c0, c1, c2, c3, hb6⟩ := cells_below' hb5; have H6 := Lib.hid hb6; clear hb5 hb6)) | fail
    go_wp2
    all_goals
      go_ret
      refine ⟨ret_bool ?_, H6.out⟩
      have hq := HQ.out
      simp [bareB] at hq
      rw [Bool.eq_iff_iff]
      simp [fitsB, *]
      try omega
      try (first | exact fun _ => hq | exact fun _ _ => hq | (intros; simp_all))
  · rw [hb] at HB
    have HQ := Lib.hid hb
    clear hb
    by_cases h8 : s.size = 8
    · have h8' : ((s.size : Int) == 8) = true := by simp [h8]
      have H8 := Lib.hid h8
      clear h8
      go_enter Tryd.func50, Tryd.ntmps50
      go_wp2
      go_region_held3 (fun w' => w'.cell? ⟨w.heap.size, 0, none⟩ = some (.int .i64 1) ∧ w'.cell? ⟨w.heap.size, 1, none⟩ = some (.int .i64 n) ∧ w'.cell? ⟨w.heap.size, 2, none⟩ = some (.string s) ∧ w'.cell? ⟨w.heap.size, 3, none⟩ = some (.slice ao m cap)) (first | exact ⟨c0, c1, c2, c3⟩ | go_keep)
        ((first
          | (go_at_call 73; refine (HB.out _).mono ?_; rintro e w5 ⟨rfl, hb5⟩; obtain ⟨c0, c1, c2, c3, hb6⟩ := cells_below' hb5; have H6 := Lib.hid hb6; clear hb5 hb6)
          | (go_at_call 32; refine (float_any _ _ HS.out).mono ?_; rintro e w6 ⟨rfl, rfl⟩)
          | (go_at_call 75; refine (asGo_any _ _).mono ?_; rintro e w6 ⟨rfl, rfl⟩)
          | (go_at_call 74; refine (of_any _ _).mono ?_; rintro e w6 ⟨rfl, rfl⟩)))
      all_goals go_wp2
      all_goals
        go_ret
        refine ⟨ret_bool ?_, H6.out⟩
        have hq := HQ.out
        simp [bareB] at hq
        rw [Bool.eq_iff_iff]
        simp [fitsB, H8.out, sameBits, hq]
        try omega
    · have h8' : ((s.size : Int) == 8) = false := by simp; omega
      have H8 := Lib.hid h8
      clear h8
      go_enter Tryd.func50, Tryd.ntmps50
      go_wp2
      first | go_region_law ((refine step_callw (by rfl) 73 #[.agg #[.int .i64 1, .int .i64 n, .string s, .slice ao m cap], .bool false, .bool true] ?_ (HB.out _) ?_; go_simp; rintro e w5 ⟨rfl, hb5⟩; refine ⟨.bool true, rfl, ?_⟩; obtain ⟨c0, c1, c2, c3, hb6⟩ := cells_below' hb5; have H6 := Lib.hid hb6; clear hb5 hb6)) | fail
      all_goals go_wp2
      all_goals
        go_ret
        refine ⟨ret_bool ?_, H6.out⟩
        have hq := HQ.out
        simp [bareB] at hq
        rw [Bool.eq_iff_iff]
        simp [fitsB, H8.out]
        try omega
set_option maxRecDepth 100000 in
set_option maxHeartbeats 1600000 in
theorem valFits_x (k : Int) (h0 : ¬ k = 0) (h1 : ¬ k = 1) (h2 : ¬ k = 2) (h3 : ¬ k = 3) (h4 : ¬ k = 4) (h5 : ¬ k = 5) (h6 : ¬ k = 6) (hs : s.size ≤ maxLen) (hm : m ≤ cap) (hcap : cap ≤ maxLen) :
    Calls Tryd.prog 50 #[.agg #[.int .i64 k, .int .i64 n, .string s, .slice ao m cap]] w fun e w' => e = .returned (.bool (fitsB k n s m)) ∧ Below w.heap.size w w' := by
  unfold maxLen at hs hcap
  go_enter Tryd.func50, Tryd.ntmps50
  go_wp2
  all_goals
    go_ret
    refine ⟨ret_bool ?_, (Below.refl _ _).alloc (Nat.le_refl _) _⟩
    rw [Bool.eq_iff_iff]
    simp [fitsB, *]
end
theorem valFits_any (k n : Int) (s : ByteArray) (ao : Option Addr) (m cap : Nat) (w : World) (hs : s.size ≤ maxLen) (hm : m ≤ cap) (hcap : cap ≤ maxLen) :
    Calls Tryd.prog 50 #[.agg #[.int .i64 k, .int .i64 n, .string s, .slice ao m cap]] w fun e w' => e = .returned (.bool (fitsB k n s m)) ∧ Below w.heap.size w w' := by
  by_cases h0 : k = 0
  · subst h0; exact valFits_0 n s ao m cap w hs hm hcap
  by_cases h1 : k = 1
  · subst h1; exact valFits_1 n s ao m cap w hs hm hcap
  by_cases h2 : k = 2
  · subst h2; exact valFits_2 n s ao m cap w hs hm hcap
  by_cases h3 : k = 3
  · subst h3; exact valFits_3 n s ao m cap w hs hm hcap
  by_cases h4 : k = 4
  · subst h4; exact valFits_4 n s ao m cap w hs hm hcap
  by_cases h5 : k = 5
  · subst h5; exact valFits_5 n s ao m cap w hs hm hcap
  by_cases h6 : k = 6
  · subst h6; exact valFits_6 n s ao m cap w hs hm hcap
  exact valFits_x n s ao m cap w k h0 h1 h2 h3 h4 h5 h6 hs hm hcap
end Go.Proofs.YtofmbpmmgpbdbaaDoor
