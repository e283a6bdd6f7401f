/- The reference's heap: Make, Raw. -/
import Derived.Test.YtlbiapgikkjooaaRh7
namespace Go.Proofs.Ytlbiapgikkjooaa
open Go.RowKit Go.Maps Hp
set_option linter.unusedSimpArgs false
set_option linter.unusedSectionVars false
set_option linter.unusedVariables false

theorem step_callw {ops : Array Oper} {o : Oper} {a : Act} {w : World} {Q : Exit → Act → World → Prop} {P : Program} {K : Act → World → Prop} {E : Prop} {R : Ending → World → Prop} (hgd : o.guard = none) (f : FuncId) (args : Array Value)
    (hrun : (execOp a.eval o).run P w = .ok (.enter f args) w) (hc : Calls P f args w R) (hK : ∀ e w', R e w' → ∃ v, e = .returned v ∧ K (a.put o.dst v) w') : if Region.wanted o (yielded ops a.tmps) = true then Oper.wp P o a w K Q else E := by
  have hw : Region.wanted o (yielded ops a.tmps) = true := by simp [Region.wanted, hgd]
  rw [if_pos hw]
  unfold Oper.wp
  rw [hrun]
  simp only [Oper.upon]
  refine hc.mono ?_
  intro e w' h
  obtain ⟨v, rfl, hk⟩ := hK e w' h
  exact hk
section
variable {w : World} {q lim : Nat} {vl vs vp v : Value} {L : List (Ob × Value)} {P : List (Int × Ref)} {A : AH}
theorem refMake_bad (h : RefIs w q lim vl vs vp L A.stack P) (t : Tied A L P) (kind n : Int) (hbad : kind < 0 ∨ 1000 < kind ∨ n < 0 ∨ (A.stack.length : Int) < n) :
    Calls Try.prog 33 #[.pointer (some ⟨q, 0, none⟩), .int .i64 kind, .int .i64 n] w fun e w' => e = .returned (.int .i64 1) ∧ Below w.heap.size w w' := by
  have c2 := h.c2
  obtain ⟨aS, cS, hvs, s1, s2, _⟩ := h.rs.form
  rw [hvs] at c2
  obtain ⟨s, hs⟩ : ∃ s, s = A.stack.length := ⟨_, rfl⟩
  rw [← hs] at c2 hbad
  have hb := Below.refl w.heap.size w
  have hs2 : (s : Int) ≤ 1000000 := by have := t.bS; omega
  clear h hvs s1 s2 t hs
  by_cases h1 : kind < 0
  · clear hbad
    have d1 : decide (kind < 0) = true := decide_eq_true h1
    go_enter Try.func33, Try.ntmps33
    go_wp2
    go_ret
    exact ⟨rfl, hb⟩
  by_cases h2 : 1000 < kind
  · clear hbad
    have d1 : decide (kind < 0) = false := decide_eq_false h1
    have d2 : decide (1000 < kind) = true := decide_eq_true h2
    go_enter Try.func33, Try.ntmps33
    go_wp2
    go_ret
    exact ⟨rfl, hb⟩
  by_cases h3 : n < 0
  · clear hbad
    have d1 : decide (kind < 0) = false := decide_eq_false h1
    have d2 : decide (1000 < kind) = false := decide_eq_false h2
    have d3 : decide (n < 0) = true := decide_eq_true h3
    go_enter Try.func33, Try.ntmps33
    go_wp2
    go_ret
    exact ⟨rfl, hb⟩
  · have h4 : (s : Int) < n := by omega
    clear hbad
    have d1 : decide (kind < 0) = false := decide_eq_false h1
    have d2 : decide (1000 < kind) = false := decide_eq_false h2
    have d3 : decide (n < 0) = false := decide_eq_false h3
    have d4 : decide ((s : Int) < n) = true := decide_eq_true h4
    go_enter Try.func33, Try.ntmps33
    go_wp2
    go_ret
    exact ⟨rfl, hb⟩
theorem refRaw_bad (q : Nat) (w : World) (kind : Int) (s : ByteArray) (hbad : kind < 0 ∨ 1000 < kind) :
    Calls Try.prog 34 #[.pointer (some ⟨q, 0, none⟩), .int .i64 kind, .string s] w fun e w' => e = .returned (.int .i64 1) ∧ Below w.heap.size w w' := by
  have hb := Below.refl w.heap.size w
  by_cases h1 : kind < 0
  · clear hbad
    have d1 : decide (kind < 0) = true := decide_eq_true h1
    go_enter Try.func34, Try.ntmps34
    go_wp2
    go_ret
    exact ⟨rfl, hb⟩
  · have h2 : 1000 < kind := by omega
    clear hbad
    have d1 : decide (kind < 0) = false := decide_eq_false h1
    have d2 : decide (1000 < kind) = true := decide_eq_true h2
    go_enter Try.func34, Try.ntmps34
    go_wp2
    go_ret
    exact ⟨rfl, hb⟩
/-- What a new object leaves: refused, or laid. -/
def NewPost (A : AH) (w : World) (q lim : Nat) (vl vs vp : Value) (L : List (Ob × Value)) (P : List (Int × Ref)) (o : Ob) (n : Nat) (e : Ending) (w' : World) : Prop :=
  if A.live + o.size ≤ lim then ∃ v, (∀ k, v.ownBlock = some k → w.heap.size ≤ k) ∧ AddPost w q lim vl vs vp L A.stack P o v n e w' else e = .returned (.int .i64 14) ∧ Below w.heap.size w w'
theorem NewPost.ret {A : AH} {o : Ob} {n : Nat} {e : Ending} {w' : World} (h : NewPost A w q lim vl vs vp L P o n e w') : ∃ v, e = .returned (.int .i64 v) := by
  unfold NewPost at h
  split at h
  · obtain ⟨v, _, h, _⟩ := h
    exact ⟨_, h⟩
  · exact ⟨_, h.1⟩
theorem appended_new {w W w7 : World} {v : Value} (hW : Chg [] w W) (ha : Appended W (.slice (some ⟨w.heap.size, 0, none⟩) 0 0) w7 v) : Below w.heap.size w w7 ∧ ∀ k, v.ownBlock = some k → w.heap.size ≤ k := by
  have hc := ha.chg
  have hk : ∀ k ∈ (Value.slice (some ⟨w.heap.size, 0, none⟩) 0 0).ownBlock.toList, w.heap.size ≤ k := fun k hk => by simp [Value.ownBlock] at hk; omega
  have all : Chg [] w w7 := hW.trans hc (fun k h => .inr (hk k h))
  refine ⟨all.below (Nat.le_refl _) (by simp), fun k h => ?_⟩
  rcases ha.out h with e | e
  · exact hk k (by simpa using e)
  · subst e; exact hW.size
theorem gives_none (w : World) : Gives w (.slice none 0 0) 0 [] := .inl ⟨rfl, rfl, rfl⟩
set_option maxRecDepth 100000 in
set_option maxHeartbeats 1600000 in
theorem refRaw_any (h : RefIs w q lim vl vs vp L A.stack P) (t : Tied A L P) (kind : Nat) (s : ByteArray) (hk : kind ≤ 1000) (hs : s.size ≤ 1000000) (hlim : lim ≤ 4194304) :
    Calls Try.prog 34 #[.pointer (some ⟨q, 0, none⟩), .int .i64 kind, .string s] w (NewPost A w q lim vl vs vp L P (rawOb kind s.data.toList) 0) := by
  have HADD : Hid (Calls Try.prog 52 #[.pointer (some ⟨q, 0, none⟩), .agg #[.int .i64 kind, .slice none 0 0, .bool true, .string s], .int .i64 0] w (NewPost A w q lim vl vs vp L P (rawOb kind s.data.toList) 0)) := by
    have ho : (rawOb kind s.data.toList).fields.length ≤ 1000000 ∧ (rawOb kind s.data.toList).bytes.length ≤ 1000000 := ⟨by simp [rawOb], by simpa [rawOb] using hs⟩
    have hw : ((rawOb kind s.data.toList).raw = true → (rawOb kind s.data.toList).fields = []) ∧ ((rawOb kind s.data.toList).raw = false → (rawOb kind s.data.toList).bytes = []) := ⟨fun _ => rfl, fun e => by cases e⟩
    by_cases hroom : A.live + (rawOb kind s.data.toList).size ≤ lim
    · refine (refAdd_room h t (rawOb kind s.data.toList) none 0 ho hw 0 (Nat.zero_le _) hlim hroom (RowZ.nil _ _ _) (fun k hk => by cases hk)).mono fun e w' he => ?_
      unfold NewPost
      rw [if_pos hroom]
      exact ⟨.slice none 0 0, (fun k hk => by simp [Value.ownBlock] at hk), he⟩
    · refine (refAdd_full h t (rawOb kind s.data.toList) none 0 ho hw 0 hlim hroom).mono fun e w' he => ?_
      unfold NewPost
      rw [if_neg hroom]
      exact he
  have d1 : decide ((kind : Int) < 0) = false := decide_eq_false (by omega)
  have d2 : decide ((1000 : Int) < (kind : Int)) = false := decide_eq_false (by omega)
  have h1 : ¬ (kind : Int) < 0 := by omega
  have h2 : ¬ (1000 : Int) < (kind : Int) := by omega
  clear h t hk hs hlim
  go_enter Try.func34, Try.ntmps34
  go_wp2_with (go_at_call 52; refine HADD.out.mono ?_; intro e w' he; obtain ⟨v, rfl⟩ := he.ret; have HE := Lib.hid he; clear he)
  go_ret
  exact HE.out
set_option maxRecDepth 100000 in
set_option maxHeartbeats 1600000 in
theorem refMake_any (h : RefIs w q lim vl vs vp L A.stack P) (t : Tied A L P) (kind n : Nat) (hk : kind ≤ 1000) (hn : n ≤ A.stack.length) (hlim : lim ≤ 4194304) :
    Calls Try.prog 33 #[.pointer (some ⟨q, 0, none⟩), .int .i64 kind, .int .i64 n] w (NewPost A w q lim vl vs vp L P ⟨kind, false, A.stack.drop (A.stack.length - n), []⟩ n) := by
  have hdl : (A.stack.drop (A.stack.length - n)).length = n := by rw [List.length_drop]; omega
  have HADD : Hid (∀ W ao cap, Below w.heap.size w W → RowZ W 27 2 (.slice ao n cap) n (rcells (A.stack.drop (A.stack.length - n))) → (∀ k, (Value.slice ao n cap).ownBlock = some k → w.heap.size ≤ k) →
      Calls Try.prog 52 #[.pointer (some ⟨q, 0, none⟩), .agg #[.int .i64 kind, .slice ao n cap, .bool false, .string ⟨#[]⟩], .int .i64 n] W (NewPost A w q lim vl vs vp L P ⟨kind, false, A.stack.drop (A.stack.length - n), []⟩ n)) := fun W ao cap hb hr hv => by
    have ho : (A.stack.drop (A.stack.length - n)).length ≤ 1000000 ∧ ([] : List UInt8).length ≤ 1000000 := ⟨by rw [hdl]; have := t.bS; omega, by simp⟩
    have hrf := h.later hb
    by_cases hroom : A.live + (⟨kind, false, A.stack.drop (A.stack.length - n), []⟩ : Ob).size ≤ lim
    · have key := refAdd_room hrf t ⟨kind, false, A.stack.drop (A.stack.length - n), []⟩ ao cap ho ⟨fun e => (by cases e), fun _ => rfl⟩ n hn hlim hroom (by rw [hdl]; exact hr) (fun k hk hm => by
        rw [hdl] at hk
        have := hv k hk
        have := h.lt k hm
        omega)
      rw [hdl] at key
      refine key.mono fun e w' he => ?_
      unfold NewPost
      rw [if_pos hroom]
      obtain ⟨e1, vl', vs', e2, e3, e4, e5⟩ := he
      exact ⟨_, hv, e1, vl', vs', e2, ((Chg.refl (rfoot q vl vs vp L) w).belowTrans hb).trans e3 (fun k hk => .inl hk), fun k hk => (e4 k hk).imp id (fun e => by have := hb.size; omega), fun k hk => by have := e5 k hk; have := hb.size; omega⟩
    · have key := refAdd_full hrf t ⟨kind, false, A.stack.drop (A.stack.length - n), []⟩ ao cap ho ⟨fun e => (by cases e), fun _ => rfl⟩ n hlim hroom
      rw [hdl] at key
      refine key.mono fun e w' he => ?_
      unfold NewPost
      rw [if_neg hroom]
      exact ⟨he.1, hb.trans (he.2.mono hb.size)⟩
  have HH := Lib.hid h
  have c2 := h.c2
  obtain ⟨aS, cS, hvs, s1, s2, s3, s4⟩ := h.rs.form
  have HVS := Lib.hid hvs
  rw [hvs] at c2
  obtain ⟨s, hs⟩ : ∃ s, s = A.stack.length := ⟨_, rfl⟩
  rw [← hs] at c2 hn
  have HS := Lib.hid hs
  have d1 : decide ((kind : Int) < 0) = false := decide_eq_false (by omega)
  have d2 : decide ((1000 : Int) < (kind : Int)) = false := decide_eq_false (by omega)
  have d3 : decide ((n : Int) < 0) = false := decide_eq_false (by omega)
  have d4 : decide (s < n) = false := decide_eq_false (by omega)
  have n1 : (n : Int) ≤ (s : Int) := by omega
  have n0 : (0 : Int) ≤ (n : Int) := by omega
  have n2 : (s : Int) ≤ 1000000 := by have := t.bS; omega
  have n5 : IntKind.i64.wrap ((s : Int) - (n : Int)) = (s : Int) - (n : Int) := IntWalk.i64_in _ (by omega)
  have n6 : (0 : Int) ≤ (s : Int) - (n : Int) := by omega
  have n7 : ((s : Int) - (n : Int)).toNat = s - n := by omega
  have n8 : s - (s - n) = n := by omega
  have n9 : (s : Int) - (n : Int) ≤ (s : Int) := by omega
  have HN := Lib.hid hn
  have HDL := Lib.hid hdl
  have hcases : (aS = none ∧ Hid (s = 0 ∧ n = 0 ∧ cS = 0)) ∨ ∃ g, aS = some ⟨g, 0, none⟩ ∧ ((cS = s - n ∧ Hid (n = 0)) ∨ (¬ cS = s - n)) := by
    cases aS with
    | none => have := s3 rfl; exact .inl ⟨rfl, ⟨by omega, by omega, this.2⟩⟩
    | some a =>
      obtain ⟨g, rfl, _⟩ := s4 a rfl
      by_cases hc : cS = s - n
      · exact .inr ⟨g, rfl, .inl ⟨hc, (by show n = 0; omega)⟩⟩
      · exact .inr ⟨g, rfl, .inr hc⟩
  have hsc : (s : Int) ≤ (cS : Int) := by omega
  clear h t hk hlim hvs hs hn hdl s1 s2 s3 s4
  have c2a : ∀ o, (w.alloc o).cell? ⟨q, 2, none⟩ = some (.slice aS s cS) := fun o => by rw [World.cell?_alloc_some _ _ _ (by rw [c2]; rfl)]; exact c2
  have HE0 : Hid (∀ W ao cap, Appended W (.slice (some ⟨w.heap.size, 0, none⟩) 0 0) W (.slice ao n cap) → True) := fun _ _ _ _ => trivial
  rcases hcases with ⟨rfl, hz⟩ | ⟨g, rfl, ⟨rfl, hz⟩ | hne⟩
  · have HGV : Hid (∀ W, Chg [] w W → Gives W (.slice none n (cS - (s - n))) n (rcells (A.stack.drop (A.stack.length - n)))) := fun W hW => by
      obtain ⟨z1, z2, z3⟩ := hz.out
      refine .inl ⟨by rw [z1, z2, z3], z2, ?_⟩
      rw [z2, Nat.sub_zero, List.drop_length]
      rfl
    go_enter Try.func33, Try.ntmps33
    go_wp2
    go_region_law (first
     | (refine step_apps (by rfl) _ _ 57 rfl Try.underlying57 infoRef rfl (by omega) (by rfl) (new_rowA _) (by rfl) (HGV.out _ ?cw) (by rw [rcells_length, HDL.out]) (rcells_one _) (by omega) (by omega) ?_; (case cw => (repeat' first | exact Chg.refl [] w | refine Chg.alloc ?_ _ | refine chg_drew ?_)); intro ao2 cap2 w7 hr7 ha7; rw [List.nil_append, Nat.zero_add] at hr7; rw [Nat.zero_add] at ha7; have HR7 := Lib.hid hr7; have HB7 := Lib.hid (appended_new (by repeat' first | exact Chg.refl [] w | refine Chg.alloc ?_ _ | refine chg_drew ?_) ha7); clear hr7 ha7)
     | (refine step_callw (w := w7) (by rfl) 52 #[.pointer (some ⟨q, 0, none⟩), .agg #[.int .i64 kind, .slice ao2 n cap2, .bool false, .string ⟨#[]⟩], .int .i64 n] ?_ (HADD.out _ ao2 cap2 HB7.out.1 HR7.out HB7.out.2) ?_; go_simp; intro e w8 he; obtain ⟨v, rfl⟩ := he.ret; refine ⟨.int .i64 v, rfl, ?_⟩; have HE := Lib.hid he; clear he))
    all_goals
      go_wp2
      go_ret
      exact HE.out
  · have HGV : Hid (∀ W, Chg [] w W → Gives W (.slice (some ⟨g, 0, none⟩) n 0) n (rcells (A.stack.drop (A.stack.length - n)))) := fun W hW => by
      have z := hz.out
      refine .inr ⟨_, 0, rfl, ?_⟩
      rw [z, Nat.sub_zero, List.drop_length]
      exact fun j u hj => by cases hj
    go_enter Try.func33, Try.ntmps33
    go_wp2
    go_region_law (first
     | (refine step_apps (by rfl) _ _ 57 rfl Try.underlying57 infoRef rfl (by omega) (by rfl) (new_rowA _) (by rfl) (HGV.out _ ?cw) (by rw [rcells_length, HDL.out]) (rcells_one _) (by omega) (by omega) ?_; (case cw => (repeat' first | exact Chg.refl [] w | refine Chg.alloc ?_ _ | refine chg_drew ?_)); intro ao2 cap2 w7 hr7 ha7; rw [List.nil_append, Nat.zero_add] at hr7; rw [Nat.zero_add] at ha7; have HR7 := Lib.hid hr7; have HB7 := Lib.hid (appended_new (by repeat' first | exact Chg.refl [] w | refine Chg.alloc ?_ _ | refine chg_drew ?_) ha7); clear hr7 ha7)
     | (refine step_callw (w := w7) (by rfl) 52 #[.pointer (some ⟨q, 0, none⟩), .agg #[.int .i64 kind, .slice ao2 n cap2, .bool false, .string ⟨#[]⟩], .int .i64 n] ?_ (HADD.out _ ao2 cap2 HB7.out.1 HR7.out HB7.out.2) ?_; go_simp; intro e w8 he; obtain ⟨v, rfl⟩ := he.ret; refine ⟨.int .i64 v, rfl, ?_⟩; have HE := Lib.hid he; clear he))
    all_goals
      go_wp2
      go_ret
      exact HE.out
  · have HGV : Hid (∀ W, Chg [] w W → Gives W (.slice (some ⟨g, (s - n) * 2, none⟩) n (cS - (s - n))) n (rcells (A.stack.drop (A.stack.length - n)))) := fun W hW => by
      have hr := HH.out.rs.chg hW (by simp)
      rw [HVS.out, ← HS.out] at hr
      have := Gives.mid hr (s - n) n (cS - (s - n)) (by rw [rcells_length]; have := HS.out; have := HN.out; omega)
      rw [rcells_drop, ← HS.out] at *
      rw [rcells_take, List.take_of_length_le (by rw [← HS.out]; exact Nat.le_of_eq HDL.out)] at this
      exact this
    go_enter Try.func33, Try.ntmps33
    go_wp2
    go_region_law (first
     | (refine step_apps (by rfl) _ _ 57 rfl Try.underlying57 infoRef rfl (by omega) (by rfl) (new_rowA _) (by rfl) (HGV.out _ ?cw) (by rw [rcells_length, HDL.out]) (rcells_one _) (by omega) (by omega) ?_; (case cw => (repeat' first | exact Chg.refl [] w | refine Chg.alloc ?_ _ | refine chg_drew ?_)); intro ao2 cap2 w7 hr7 ha7; rw [List.nil_append, Nat.zero_add] at hr7; rw [Nat.zero_add] at ha7; have HR7 := Lib.hid hr7; have HB7 := Lib.hid (appended_new (by repeat' first | exact Chg.refl [] w | refine Chg.alloc ?_ _ | refine chg_drew ?_) ha7); clear hr7 ha7)
     | (refine step_callw (w := w7) (by rfl) 52 #[.pointer (some ⟨q, 0, none⟩), .agg #[.int .i64 kind, .slice ao2 n cap2, .bool false, .string ⟨#[]⟩], .int .i64 n] ?_ (HADD.out _ ao2 cap2 HB7.out.1 HR7.out HB7.out.2) ?_; go_simp; intro e w8 he; obtain ⟨v, rfl⟩ := he.ret; refine ⟨.int .i64 v, rfl, ?_⟩; have HE := Lib.hid he; clear he))
    all_goals
      go_wp2
      go_ret
      exact HE.out
end
end Go.Proofs.Ytlbiapgikkjooaa
