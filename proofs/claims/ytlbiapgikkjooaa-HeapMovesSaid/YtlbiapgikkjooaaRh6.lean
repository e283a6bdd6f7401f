/- The reference's heap: Live. -/
import Derived.Test.YtlbiapgikkjooaaRh5
import Derived.Deep.DeepCutAuto
import Derived.Laws.MakeOwn
import Derived.Laws.OwnMore
namespace Go.Proofs.Ytlbiapgikkjooaa
open Go.RowKit Go.Maps Hp
set_option linter.unusedSimpArgs false
set_option linter.unusedSectionVars false
set_option linter.unusedVariables false

theorem infoBool : (Try.prog.info? 4).map (fun i => (i.zero, i.size, i.bytes)) = some (some (.bool false), 1, 1) := by kernel_rfl
def bcells (B : List Bool) : List Value := B.map Value.bool
/-- The marks lie in a row of their own. -/
def Marks (w : World) (N : Nat) (gs n : Nat) (B : List Bool) : Prop := RowZ w 4 1 (.slice (some ⟨gs, 0, none⟩) n n) n (bcells B) ∧ N ≤ gs
theorem run_make_bools (n : Nat) (hn : n ≤ 1000000000) (w : World) : (Instr.makeSlice 85 (.int .i64 (n : Int)) (.int .i64 (n : Int))).run Try.prog w = .ok (.slice (some ⟨w.heap.size, 0, none⟩) n n) (w.alloc (.cells (madeCells #[.bool false] n) 4)) := by
  obtain ⟨i0, hi, hz0, hz1, hz2⟩ := info_parts infoBool
  have := run_make (P := Try.prog) w 85 4 i0 (.bool false) Try.underlying85 hi hz0 .i64 .i64 n n (by omega) (Int.le_refl _) (by rw [hz2]; omega) (by omega)
  rw [hz1, Int.toNat_natCast, Nat.mul_one] at this
  exact this
theorem row_made_bools (n : Nat) (hn : n ≤ 1000000000) (w : World) : Marks (w.alloc (.cells (madeCells #[.bool false] n) 4)) w.heap.size w.heap.size n (List.replicate n false) := by
  have hsz : (madeCells #[Value.bool false] n).size = n := by simp [madeCells]
  have h := World.ownsRow_lit (base := 0) (e := 4) (size := 1) w (madeCells #[.bool false] n) n (Nat.zero_le _) (by unfold maxLen; omega) (by rw [hsz, Nat.mul_one])
  have e : (madeCells #[Value.bool false] n).toList = bcells (List.replicate n false) := by
    apply List.ext_getElem (by simp [madeCells, bcells])
    intro j h1 h2
    simp [madeCells, Nat.mod_one, bcells]
  rw [e] at h
  exact ⟨h, Nat.le_refl _⟩
theorem new_row00 (W : World) {H : Nat} (hH : W.heap.size = H) : RowZ (W.alloc (.cells #[] 27)) 27 2 (.slice (some ⟨H, 0, none⟩) 0 0) 0 [] := by
  subst hH
  exact ⟨rfl, .inr ⟨W.heap.size, 0, #[], rfl, Nat.zero_le _, heap_alloc_new W _, Nat.le_refl _, by unfold maxLen; omega, rfl, rfl⟩⟩
theorem Marks.chg {w w' : World} {N gs n : Nat} {B : List Bool} {F : List Nat} (h : Marks w N gs n B) (hc : Chg F w w') (hF : gs ∉ F) : Marks w' N gs n B := ⟨h.1.chg hc (fun k hk => by cases hk; exact hF), h.2⟩
theorem two_new {w : World} {a b : Value} {t : TypeId} : ∀ j u, [a, b][j]? = some u → (w.alloc (.cells #[a, b] t)).cell? ((⟨w.heap.size, 0, none⟩ : Addr).add j) = some u :=
  World.news_of_block (cs := #[a, b]) (fr := (0, 0)) (heap_alloc_new w _)
theorem cell_new_0 (w : World) (a : Value) (t : TypeId) (H : Nat) (hH : w.heap.size = H) : (w.alloc (.cells #[a] t)).cell? ⟨H, 0, none⟩ = some a := by
  subst hH
  simp
/-- The marks and the row of those that wait. -/
structure Wait (w : World) (N gs n : Nat) (s4 : Value) (B : List Bool) (ws : List Nat) (wr : World) : Prop where
  q : QIs wr N s4 (ws.map Int.ofNat)
  m : Marks wr N gs n B
  ne : gs ∉ vb s4
  b : Below N w wr
  n : N ≤ wr.heap.size
theorem Wait.chg {w wr w' : World} {N gs n : Nat} {s4 : Value} {B : List Bool} {ws : List Nat} {F : List Nat} (h : Wait w N gs n s4 B ws wr) (hc : Chg F wr w') (h1 : gs ∉ F) (h2 : ∀ k ∈ vb s4, k ∉ F) (h3 : ∀ k ∈ F, N ≤ k) : Wait w N gs n s4 B ws w' :=
  ⟨h.q.chg hc h2, h.m.chg hc h1, h.ne, h.b.trans (hc.below h.n h3), Nat.le_trans h.n hc.size⟩
theorem Wait.mark {w wr W w' : World} {N gs n : Nat} {s4 s4' : Value} {B : List Bool} {ws : List Nat} {i : Nat} (h : Wait w N gs n s4 B ws wr) (hW : Chg [] (wr.setCell ⟨gs, i, none⟩ (.bool true)) W) (hq : QApp W N s4 (ws.map Int.ofNat) (i : Int) s4' w') :
    Wait w N gs n s4' (B.set i true) (ws ++ [i]) w' ∧ Chg (gs :: vb s4) wr w' ∧ ∀ k ∈ vb s4', k ∈ vb s4 ∨ wr.heap.size ≤ k := by
  obtain ⟨h1, h2, h3⟩ := hq
  have hs : Chg [gs] wr (wr.setCell ⟨gs, i, none⟩ (.bool true)) := chg_set wr gs _ _
  have hs2 : Chg [gs] wr W := hs.trans (hW.mono (F' := [gs]) (by simp)) (fun k hk => .inl hk)
  have hgs : gs < wr.heap.size := h.m.1.lt rfl
  have hvb := h.q.vb_lt
  have hc : Chg (gs :: vb s4) wr w' := (hs2.mono (F' := gs :: vb s4) (by simp)).trans h2 (fun k hk => .inl (by simp [hk]))
  have hne : gs ∉ vb s4' := fun hm => by
    rcases h3 gs hm with e | e
    · exact h.ne e
    · have := hs2.size; omega
  have hm : Marks (wr.setCell ⟨gs, i, none⟩ (.bool true)) N gs n (B.set i true) := ⟨by
    have := h.m.1.stored i (.bool true)
    unfold bcells at this ⊢
    rw [List.map_set]
    exact this, h.m.2⟩
  refine ⟨⟨by rw [List.map_append]; exact h1, (hm.chg hW (by simp)).chg h2 h.ne, hne, h.b.trans (hc.below h.n (fun k hk => ?_)), Nat.le_trans h.n hc.size⟩, hc, fun k hk => ?_⟩
  · rw [List.mem_cons] at hk
    rcases hk with rfl | hk
    · exact h.m.2
    · exact (hvb k hk).1
  · rcases h3 k hk with e | e
    · exact .inl e
    · have := hs2.size; exact .inr (by omega)
theorem QIs.tail {w : World} {N b off n cap : Nat} {x : Int} {l : List Int} (h : QIs w N (.slice (some ⟨b, off, none⟩) n cap) (x :: l)) : QIs w N (.slice (some ⟨b, off + 1, none⟩) l.length (cap - 1)) l ∧ (cap = 1 → QIs w N (.slice (some ⟨b, off, none⟩) 0 0) l ∧ l = []) := by
  obtain ⟨ao, cap', e, h1, h2, h3, h4⟩ := h
  cases e
  obtain ⟨b', off', e, g1, g2, g3, g4⟩ := h4 _ rfl
  cases e
  rw [List.length_cons] at h1
  refine ⟨⟨_, _, rfl, by omega, by omega, (fun e => by cases e), fun a ha => ?_⟩, fun hc => ?_⟩
  · cases ha
    refine ⟨b, off + 1, rfl, g1, g2, fun j y hj => ?_, fun j hj hj2 => ?_⟩
    · have := g3 (j + 1) y (by rw [List.getElem?_cons_succ]; exact hj)
      rwa [show off + 1 + j = off + (j + 1) by omega]
    · have := g4 (j + 1) (by rw [List.length_cons]; omega) (by omega)
      rwa [show off + 1 + j = off + (j + 1) by omega]
  · obtain rfl : l = [] := List.length_eq_zero_iff.1 (by omega)
    exact ⟨⟨_, _, rfl, Nat.le_refl _, by unfold maxLen; omega, (fun e => by cases e), fun a ha => by cases ha; exact ⟨b, off, rfl, g1, g2, (fun j y hj => by cases hj), (fun j hj hj2 => by omega)⟩⟩, rfl⟩
theorem total_bound {A : AH} {c : Nat} (l : List Nat) (h : ∀ i ∈ l, sizeAt A i ≤ c) : total A l ≤ l.length * c := by
  induction l with
  | nil => simp [total]
  | cons i l ih =>
    rw [total_cons, List.length_cons, Nat.succ_mul]
    have := ih (fun j hj => h j (List.mem_cons_of_mem _ hj))
    have := h i List.mem_cons_self
    omega
theorem root_iff {A : AH} {S : List Ref} {P : List (Int × Ref)} (hS : A.stack = S) (hP : ∀ k, A.pins k = pinOf P k) (hnd : (P.map (·.1)).Nodup) (r : Ref) : A.Root r ↔ ∃ j : Nat, (S ++ P.map (·.2))[j]? = some r := by
  rw [← List.mem_iff_getElem?, List.mem_append]
  unfold AH.Root
  rw [hS]
  refine or_congr Iff.rfl ⟨fun ⟨k, hk⟩ => ?_, fun hr => ?_⟩
  · rw [hP] at hk
    unfold pinOf at hk
    cases hf : P.find? (fun x => x.1 == k) with
    | none => rw [hf] at hk; cases hk
    | some x =>
      rw [hf] at hk
      cases hk
      exact List.mem_map.2 ⟨x, List.mem_of_find?_eq_some hf, rfl⟩
  · obtain ⟨x, hx, rfl⟩ := List.mem_map.1 hr
    obtain ⟨i, hi⟩ := List.mem_iff_getElem?.1 hx
    refine ⟨x.1, ?_⟩
    rw [hP]
    refine pinOf_some hi rfl fun j y hj hy e => ?_
    have h1 : (P.map (·.1))[j]? = some x.1 := by rw [List.getElem?_map, hy, ← e]; rfl
    have h2 : (P.map (·.1))[i]? = some x.1 := by rw [List.getElem?_map, hi]; rfl
    obtain ⟨l1, g1⟩ := List.getElem?_eq_some_iff.1 h1
    obtain ⟨l2, g2⟩ := List.getElem?_eq_some_iff.1 h2
    exact List.pairwise_iff_getElem.1 hnd j i l1 l2 hj (g1.trans g2.symm)
section
variable {w : World} {q lim : Nat} {vl vs vp : Value} {L : List (Ob × Value)} {S : List Ref} {P : List (Int × Ref)}
/-- The roots are looked at in turn. -/
def SeenLoop (A : AH) (w : World) (gs n : Nat) (s6 : Value) (R : List Ref) (gk : Nat) (s4 s8 : Value) (wr : World) : Prop :=
  ∃ (i : Nat) (B : List Bool) (ws : List Nat), s8 = .int .i64 i ∧ i + gk = R.length ∧ Wait w w.heap.size gs n s4 B ws wr ∧ Bfs A B [] ws ∧ (∀ (j : Nat) r, j < i → R[j]? = some r → r.obj = true → r.ix ∈ ws) ∧
    RowZ wr 27 2 s6 R.length (rcells R) ∧ (∀ k, s6.ownBlock = some k → w.heap.size ≤ k ∧ k ≠ gs ∧ k ∉ vb s4)
/-- All that wait are taken in turn. -/
def LiveLoop (A : AH) (w : World) (gs n : Nat) (gk : Nat) (s4 s5 : Value) (wr : World) : Prop :=
  ∃ (B : List Bool) (done ws : List Nat), s5 = .int .i64 (total A done : Int) ∧ done.length + gk = n ∧ Wait w w.heap.size gs n s4 B ws wr ∧ Bfs A B done ws ∧ (∀ r, A.Root r → r.obj = true → r.ix ∈ done ++ ws) ∧ (∀ i r, i ∈ done → A.Edge i r → r.obj = true → r.ix ∈ done ++ ws)
/-- The fields of one object are looked at in turn. -/
def FLoop (A : AH) (w : World) (gs n : Nat) (F : List Ref) (bx : Nat) (ob : Array Value) (done rest : List Nat) (gk : Nat) (s4 s10 : Value) (wr : World) : Prop :=
  ∃ (i : Nat) (B : List Bool) (ws : List Nat), s10 = .int .i64 i ∧ i + gk = F.length ∧ Wait w w.heap.size gs n s4 B ws wr ∧ Bfs A B done ws ∧ (∀ x, x ∈ done ++ rest → x ∈ done ++ ws) ∧ (∀ (k : Nat) r, k < i → F[k]? = some r → r.obj = true → r.ix ∈ done ++ ws) ∧
    wr.heap[bx]? = some (.cells ob 82 (0, 0)) ∧ bx ≠ gs ∧ bx ∉ vb s4 ∧ w.heap.size ≤ bx
def RootLoop (w : World) (gs n : Nat) (S : List Ref) (P : List (Int × Ref)) (gk : Nat) (s6 s7 : Value) (wr : World) : Prop :=
  ∃ i : Nat, s7 = .int .i64 i ∧ i + gk = P.length ∧ RowZ wr 27 2 s6 (S.length + i) (rcells (S ++ (P.take i).map (·.2))) ∧ (∀ k, s6.ownBlock = some k → w.heap.size ≤ k ∧ k ≠ gs) ∧ Marks wr w.heap.size gs n (List.replicate n false) ∧ Below w.heap.size w wr
set_option maxRecDepth 100000 in
set_option maxHeartbeats 3200000 in
theorem refLive_any (A : AH) (h : RefIs w q lim vl vs vp L S P) (hA : A.objs = L.map (·.1)) (hS : A.stack = S) (hP : ∀ k, A.pins k = pinOf P k) (hnd : (P.map (·.1)).Nodup) (hwf : A.Wf) (bL : L.length ≤ 1000000) (bS : S.length ≤ 1000000) (bP : P.length ≤ 1000000)
    (bO : ∀ o ∈ L, o.1.fields.length ≤ 1000000 ∧ o.1.bytes.length ≤ 1000000) :
    Calls Try.prog 42 #[.pointer (some ⟨q, 0, none⟩)] w fun e w' => e = .returned (.int .i64 (A.live : Int)) ∧ Below w.heap.size w w' := by
  have c1 := h.c1
  obtain ⟨al, cl, hvl, l1, l2, _⟩ := h.rl.form
  rw [hvl] at c1
  have HH := Lib.hid h
  obtain ⟨n, hn⟩ : ∃ n, n = L.length := ⟨_, rfl⟩
  rw [← hn] at c1
  have hn1 : (n : Int) ≤ 1000000 := by omega
  have hmk := run_make_bools n (by omega) w
  have HN := Lib.hid hn
  have HRI := Lib.hid (root_iff hS hP hnd)
  clear h hvl l1 l2 hn
  go_enter Try.func42, Try.ntmps42
  have c2 : ∀ a b, ((w.alloc a).alloc b).cell? ⟨q, 2, none⟩ = some vs := fun a b => ((HH.out.alloc a).alloc b).c2
  have HGV : Hid (∀ a b, Gives ((w.alloc a).alloc b) vs S.length (rcells S)) := fun a b => Gives.of_row ((HH.out.alloc a).alloc b).rs
  have HLT := Lib.hid bS
  obtain ⟨aS, cS, hvs, _⟩ := HH.out.rs.form
  have HVS := Lib.hid hvs
  rw [hvs] at c2 HGV
  clear hvs
  go_wp2_with (at_builtin; refine wpList_apps rfl (.tmp 18) (.tmp 22) 57 rfl Try.underlying57 infoRef rfl (by omega) rfl (new_row00 _ (by simp)) rfl (HGV.out _ _) (by rw [rcells_length]) (rcells_one _) (by have := HLT.out; omega) (by omega) ?_; intro ao6 cap6 w6 hr' ha'; have HR6 := Lib.hid hr'; have HA6 := Lib.hid ha'; clear hr' ha')
  have HL : Hid (RootLoop w w.heap.size n S P P.length (.slice ao6 S.length cap6) (.int .i64 0) w6) := by
    have hb0 : Below w.heap.size w ((w.alloc (.cells (madeCells #[.bool false] n) 4)).alloc (.cells #[] 27)) := ((Below.refl _ _).alloc (Nat.le_refl _) _).alloc (by simp) _
    have hc : Chg [w.heap.size + 1] ((w.alloc (.cells (madeCells #[.bool false] n) 4)).alloc (.cells #[] 27)) w6 := HA6.out.chg
    have hr := HR6.out
    rw [Nat.zero_add, List.nil_append] at hr
    refine ⟨0, rfl, Nat.zero_add _, by rw [List.take_zero, List.map_nil, List.append_nil, Nat.add_zero]; exact hr, fun k hk => ?_, ?_, hb0.trans (hc.below (by simp; omega) (by simp))⟩
    · have hk' : (Value.slice ao6 (0 + S.length) cap6).ownBlock = some k := by rw [Nat.zero_add]; exact hk
      rcases HA6.out.out hk' with e | e
      · have e' : some (w.heap.size + 1) = some k := e
        cases e'
        exact ⟨by omega, by omega⟩
      · simp at e
        exact ⟨by omega, by omega⟩
    · exact ((row_made_bools n (by have := HN.out; have := bL; omega) w).chg ((Chg.refl [] _).alloc _) (by simp)).chg hc (by simp)
  have hP1 : (P.length : Int) ≤ 1000000 := by omega
  have BP := Lib.hid bP
  obtain ⟨aP, cP, hvp, _⟩ := HH.out.rp.form
  have HVP := Lib.hid hvp
  clear hvp
  clear c1 c2 hmk HGV HR6 HA6
  go_loopg [6, 7] P.length (fun gk s6 s7 wr => RootLoop w w.heap.size n S P gk s6 s7 wr)
  case atStart => exact HL.out
  case round =>
    clear HL
    obtain ⟨i, rfl, hig, hr, hown, hmk, hb⟩ := hrel
    have hw := HH.out.later hb
    have c3 := hw.c3
    rw [HVP.out] at c3
    have i0 : (0 : Int) ≤ (i : Int) := by omega
    have HIG := Lib.hid hig
    have HR := Lib.hid hr
    have HO := Lib.hid hown
    have HM := Lib.hid hmk
    have HB := Lib.hid hb
    obtain ⟨a6, c6, h6, _⟩ := hr.form
    obtain ⟨m6, hm6⟩ : ∃ m, m = S.length + i := ⟨_, rfl⟩
    rw [← hm6] at h6
    have HM6 := Lib.hid hm6
    subst h6
    by_cases hlt : i < P.length
    · obtain ⟨x, hx⟩ : ∃ x, P[i]? = some x := ⟨_, List.getElem?_eq_getElem hlt⟩
      obtain ⟨g, hao, d0, d1, d2⟩ := hw.pin_at HVP.out hx
      subst hao
      have i1 : (i : Int) < (P.length : Int) := by omega
      have HT := Lib.hid (take_next hx)
      clear hig hx hr hown hmk hb hw hm6
      go_wp2_with (at_builtin; refine wpList_apps rfl (.tmp 33) (.tmp 42) 57 rfl Try.underlying57 infoRef rfl (by omega) rfl (HR.out.chg ((Chg.refl [] _).alloc _) (fun _ _ => by simp)) rfl (.inr ⟨_, 1, rfl, two_new⟩) rfl (by simp [Value.oneCell']) (by have := HLT.out; have := BP.out; omega) (by omega) ?_; intro ao7 cap7 w7 hr' ha'; have HR7 := Lib.hid hr'; have HA7 := Lib.hid ha'; clear hr' ha')
      go_roundg (gk - 1)
      case measure => have := HIG.out; omega
      case rel =>
        have hc : Chg (Value.slice a6 m6 c6).ownBlock.toList (wr.alloc (.cells #[.bool x.2.obj, .int .i64 x.2.n] 27)) w7 := HA7.out.chg
        have hown := HO.out
        refine ⟨i + 1, by go_num, by have := HIG.out; omega, ?_, fun k hk => ?_, ?_, ?_⟩
        · have e : rcells (S ++ (P.take (i + 1)).map (·.2)) = rcells (S ++ (P.take i).map (·.2)) ++ [.bool x.2.obj, .int .i64 x.2.n] := by
            rw [HT.out, List.map_append, ← List.append_assoc, rcells_append]
            rfl
          rw [e, ← Nat.add_assoc]
          have h := HR7.out
          rw [← HM6.out] at h ⊢
          exact h
        · have hk' : (Value.slice ao7 (S.length + i + 1) cap7).ownBlock = some k := by first | exact hk | (rw [← HM6.out]; exact hk)
          rcases HA7.out.out hk' with e | e
          · exact hown k e
          · have := HB.out.size
            have := (HM.out.1.lt (k := w.heap.size) rfl)
            simp at e
            exact ⟨by omega, by omega⟩
        · exact (HM.out.chg ((Chg.refl [] _).alloc _) (by simp)).chg hc (fun hm => (hown w.heap.size (by simpa using hm)).2 rfl)
        · refine (HB.out.alloc HB.out.size _).trans (hc.below ?_ ?_)
          · have := HB.out.size; simp; omega
          · intro k hk
            exact (hown k (by simpa using hk)).1
    · have hge : ¬ (i : Int) < (P.length : Int) := by omega
      clear hig hr hown hmk hb hw hm6
      have HL2 : Hid (SeenLoop A w w.heap.size n (.slice a6 m6 c6) (S ++ P.map (·.2)) (S.length + P.length) (.slice none 0 0) (.int .i64 0) wr) := by
        have hi : i = P.length := by have := HIG.out; omega
        have hr := HR.out
        have hm := HM6.out
        have hown := HO.out
        have hmk := HM.out
        subst hi
        rw [List.take_length] at hr
        have e : (S ++ P.map (·.2)).length = S.length + P.length := by simp
        refine ⟨0, List.replicate n false, [], rfl, by rw [e, Nat.zero_add], ⟨QIs.nil _ _, hmk, by simp [vb], HB.out, HB.out.size⟩, ?_, fun j r hj => absurd hj (Nat.not_lt_zero _), ?_, fun k hk => ⟨(hown k hk).1, (hown k hk).2, by simp [vb]⟩⟩
        · have e2 : n = A.objs.length := by rw [HN.out, hA, List.length_map]
          rw [e2]
          exact Bfs.start A
        · rw [e]
          exact hr
      go_wp2
      have HROOT : Hid (∀ r, A.Root r ↔ ∃ j : Nat, (S ++ P.map (·.2))[j]? = some r) := HRI.out
      have hRl : (S ++ P.map (·.2)).length = S.length + P.length := by simp
      have hm6 : m6 = (S ++ P.map (·.2)).length := by have := HM6.out; have := HIG.out; omega
      have hR1 : (m6 : Int) ≤ 2000000 := by omega
      rw [← hRl] at HL2
      have HBL := Lib.hid bL
      generalize S ++ P.map (·.2) = R at HL2 HROOT hm6
      subst hm6
      clear HIG HR HO HM HM6 HB hRl hlt hge HLT BP hP1 bS bP hP c3
      go_loopg [4, 8] R.length (fun gk s4 s8 wr => SeenLoop A w w.heap.size n (.slice a6 R.length c6) R gk s4 s8 wr)
      case atStart => exact HL2.out
      case round =>
        clear HL2
        obtain ⟨i, B, ws, rfl, hig, hwt, hbf, hseen, hr, hown⟩ := hrel
        have i0 : (0 : Int) ≤ (i : Int) := by omega
        have HIG := Lib.hid hig
        have HWT := Lib.hid hwt
        have HBF := Lib.hid hbf
        have HSN := Lib.hid hseen
        have HR := Lib.hid hr
        have HO := Lib.hid hown
        obtain ⟨a4, c4, h4, _⟩ := hwt.q
        obtain ⟨m4, hm4⟩ : ∃ m, m = (ws.map Int.ofNat).length := ⟨_, rfl⟩
        rw [← hm4] at h4
        have HM4 := Lib.hid hm4
        have HWL : Hid (ws.length ≤ 1000000) := by have := hbf.count; have e2 : n = A.objs.length := by rw [HN.out, hA, List.length_map]
                                                   have := HN.out; have := HBL.out; simp at *; show _ ≤ _; omega
        subst h4
        by_cases hlt : i < R.length
        · obtain ⟨r, hx⟩ : ∃ r, R[i]? = some r := ⟨_, List.getElem?_eq_getElem hlt⟩
          have i1 : (i : Int) < (R.length : Int) := by omega
          obtain ⟨g6, rfl⟩ : ∃ g, a6 = some ⟨g, 0, none⟩ := by
            obtain ⟨a, c, e, _, _, f3, f4⟩ := hr.form
            cases e
            cases a6 with
            | none => have := f3 rfl; omega
            | some a => obtain ⟨g, rfl, _⟩ := f4 a rfl; exact ⟨g, rfl⟩
          obtain ⟨e0, e1⟩ := rcells_get hx
          have hlen := rcells_length R
          have d0 : wr.cell? ⟨g6, i * 2, none⟩ = some (.bool r.obj) := by rw [hr.cellAt _ (by omega)]; exact e0
          have d1 : wr.cell? ⟨g6, i * 2 + 1, none⟩ = some (.int .i64 r.n) := by rw [hr.cellAt _ (by omega)]; exact e1
          have HX := Lib.hid hx
          obtain ⟨b, k⟩ := r
          have HOK : Hid (b = true → ∃ j : Nat, k = j ∧ A.Reach j ∧ j < n) := by
            intro hb
            have hroot : A.Root ⟨b, k⟩ := (HROOT.out _).2 ⟨i, HX.out⟩
            have h0 := hwf.rootObj _ hroot hb
            have h0 : 0 ≤ k := h0
            have hre : A.Reach k.toNat := .root hroot ⟨hb, by show k = _; omega⟩
            exact ⟨k.toNat, by omega, hre, by have := hwf.there _ hre; rw [hA, List.length_map] at this; have := HN.out; omega⟩
          clear hig hwt hbf hseen hr hown hm4 hx e0 e1 hlen
          cases b
          · go_wp2
            go_roundg (gk - 1)
            case measure => have := HIG.out; omega
            case rel => exact ⟨i + 1, B, ws, by go_num, by have := HIG.out; omega, HWT.out, HBF.out, (fun j r hj hr hb => by
                rcases Nat.lt_or_ge j i with h | h
                · exact HSN.out j r h hr hb
                · obtain rfl : j = i := by omega
                  rw [HX.out] at hr; cases hr; cases hb), HR.out, HO.out⟩
          · obtain ⟨j, rfl, hre, hjn⟩ := HOK.out rfl
            have HRE := Lib.hid hre
            have j0 : (0 : Int) ≤ (j : Int) := by omega
            have j1 : (j : Int) < (n : Int) := by omega
            have hBl : B.length = n := by rw [HBF.out.len, hA, List.length_map, HN.out]
            obtain ⟨bb, hbb⟩ : ∃ bb, B[j]? = some bb := ⟨_, List.getElem?_eq_getElem (by omega)⟩
            have d2 : wr.cell? ⟨w.heap.size, j, none⟩ = some (.bool bb) := by
              rw [HWT.out.m.1.cellAt j (by unfold bcells; rw [List.length_map]; omega)]
              unfold bcells
              rw [List.getElem?_map, hbb]
              rfl
            have d3 : wr.frozen? ⟨w.heap.size, j, none⟩ = false := World.ownsRow.frozenAt HWT.out.m.1 _
            have HBB := Lib.hid hbb
            clear hBl hbb hre HOK
            cases bb
            · have hgg : w.heap.size ≠ g6 := fun e => (HO.out g6 rfl).2.1 e.symm
              have HQ : Hid (∀ o, QIs ((wr.setCell ⟨w.heap.size, j, none⟩ (.bool true)).alloc o) w.heap.size (.slice a4 m4 c4) (ws.map Int.ofNat)) := fun o => (HWT.out.q.chg (chg_set wr w.heap.size _ _) (fun k hk e => by simp at e; subst e; exact HWT.out.ne hk)).chg ((Chg.refl [] _).alloc o) (by simp)
              have HSZ := Lib.hid HWT.out.n
              clear hjn
              go_wp2_with (at_builtin; refine wpList_qapp rfl (.tmp 73) (.tmp 79) rfl rfl (HQ.out _) (by have := HSZ.out; simp; omega) rfl (cell_new_0 _ _ _ _ (by simp)) rfl (by have := HWL.out; simp; omega) ?_; intro ao7 cap7 w7 hq'; have HQ7 := Lib.hid hq'; clear hq')
              go_roundg (gk - 1)
              case measure => have := HIG.out; omega
              case rel =>
                obtain ⟨m1, m2, m3⟩ := HWT.out.mark ((Chg.refl [] _).alloc _) HQ7.out
                rw [List.length_map] at m1 m3
                have hown := HO.out g6 rfl
                refine ⟨i + 1, _, _, by go_num, by have := HIG.out; omega, ?_, HBF.out.mark HBB.out HRE.out, fun j' r hj hr hb => ?_, HR.out.chg m2 (fun k hk => ?_), fun k hk => ?_⟩
                · exact m1
                · rcases Nat.lt_or_ge j' i with h | h
                  · exact List.mem_append_left _ (HSN.out j' r h hr hb)
                  · obtain rfl : j' = i := by omega
                    rw [HX.out] at hr
                    cases hr
                    exact List.mem_append_right _ (by simp [Ref.ix])
                · cases hk
                  simp only [List.mem_cons, not_or]
                  exact ⟨hown.2.1, hown.2.2⟩
                · cases hk
                  refine ⟨hown.1, hown.2.1, fun hm => ?_⟩
                  rcases m3 g6 hm with e | e
                  · exact hown.2.2 e
                  · have := HR.out.lt (k := g6) rfl
                    omega
            · clear hjn
              go_wp2
              go_roundg (gk - 1)
              case measure => have := HIG.out; omega
              case rel => exact ⟨i + 1, B, ws, by go_num, by have := HIG.out; omega, HWT.out, HBF.out, (fun j' r hj hr hb => by
                rcases Nat.lt_or_ge j' i with h | h
                · exact HSN.out j' r h hr hb
                · obtain rfl : j' = i := by omega
                  rw [HX.out] at hr
                  cases hr
                  have := (HBF.out.mem j).1 HBB.out
                  rw [List.nil_append] at this
                  exact this), HR.out, HO.out⟩
        · have hge : ¬ (i : Int) < (R.length : Int) := by omega
          have HLW : Hid (LiveLoop A w w.heap.size n n (.slice a4 m4 c4) (.int .i64 0) wr) := by
            refine ⟨B, [], ws, by simp [total], by simp, HWT.out, HBF.out, fun r hr hb => ?_, fun i r hi => by cases hi⟩
            obtain ⟨j, hj⟩ := (HROOT.out r).1 hr
            have := (List.getElem?_eq_some_iff.1 hj).1
            exact HSN.out j r (by have := HIG.out; omega) hj hb
          clear HIG HWT HBF HSN HR HO HM4 HWL HROOT hig hwt hbf hseen hr hown hm4 hlt
          go_wp2
          go_loopg [4, 5] n (fun gk s4 s5 wr => LiveLoop A w w.heap.size n gk s4 s5 wr)
          case atStart => exact HLW.out
          case round =>
            clear HLW
            obtain ⟨B, done, ws, rfl, hgk, hwt, hbf, hroot, hedge⟩ := hrel
            have HGK := Lib.hid hgk
            have HWT := Lib.hid hwt
            have HBF := Lib.hid hbf
            have HRT := Lib.hid hroot
            have HED := Lib.hid hedge
            cases ws with
            | nil =>
              obtain ⟨a4, c4, h4, _⟩ := hwt.q
              have HLV : Hid (A.live = total A done) := Bfs.live hbf hwf (fun r hr hb => by have := hroot r hr hb; simpa using this) (fun i r hi he hb => by have := hedge i r hi he hb; simpa using this)
              have h4' : _ = Value.slice a4 0 c4 := h4
              subst h4'
              clear hgk hwt hbf hroot hedge h4
              go_wp2
              go_ret
              exact ⟨by rw [HLV.out]; rfl, HWT.out.b⟩
            | cons j rest =>
              obtain ⟨a4, c4, h4, g1, g2, g3, g4⟩ := hwt.q
              obtain ⟨m4, hm4⟩ : ∃ m, m = rest.length := ⟨_, rfl⟩
              rw [List.map_cons, List.length_cons, List.length_map, ← hm4] at h4
              obtain ⟨b4, o4, rfl⟩ : ∃ b o, a4 = some ⟨b, o, none⟩ := by
                cases a4 with
                | none => have := (g3 rfl).1; cases this
                | some a => obtain ⟨b, o, rfl, _⟩ := g4 a rfl; exact ⟨b, o, rfl⟩
              have k0 : wr.cell? ⟨b4, o4, none⟩ = some (.int .i64 (j : Int)) := by
                obtain ⟨b', o', e, _, _, gg, _⟩ := g4 _ rfl
                cases e
                exact gg 0 _ rfl
              have hjn : j < n := by have := hbf.lt (i := j) (by simp); rw [hA, List.length_map] at this; have := HN.out; omega
              obtain ⟨o, ho⟩ : ∃ o, L[j]? = some o := ⟨_, List.getElem?_eq_getElem (by have := HN.out; omega)⟩
              have hao : A.objs[j]? = some o.1 := by rw [hA, List.getElem?_map, ho]; rfl
              have hre : A.Reach j := hbf.reach j (by simp)
              have hob := hwf.obj j o.1 hre hao
              have hbo := bO o (List.mem_of_getElem? ho)
              have hw := HH.out.later hwt.b
              have c1 := hw.c1
              have hrl := hw.rl
              obtain ⟨al', cl', hvl', l1, l2, l3, l4⟩ := hw.rl.form
              obtain ⟨gl, rfl⟩ : ∃ g, al' = some ⟨g, 0, none⟩ := by
                cases al' with
                | none => have := (l3 rfl).1; have := HN.out; omega
                | some a => obtain ⟨g, rfl, _⟩ := l4 a rfl; exact ⟨g, rfl⟩
              obtain ⟨e0, e1, e2, e3⟩ := ocells_get ho
              have hlen := ocells_length L
              rw [hvl'] at c1 hrl
              have f0 : wr.cell? ⟨gl, j * 4, none⟩ = some (.int .i64 o.1.kind) := by rw [hrl.cellAt _ (by have := HN.out; omega)]; exact e0
              have f1 : wr.cell? ⟨gl, j * 4 + 1, none⟩ = some o.2 := by rw [hrl.cellAt _ (by have := HN.out; omega)]; exact e1
              have f2 : wr.cell? ⟨gl, j * 4 + 2, none⟩ = some (.bool o.1.raw) := by rw [hrl.cellAt _ (by have := HN.out; omega)]; exact e2
              have f3 : wr.cell? ⟨gl, j * 4 + 3, none⟩ = some (.string ⟨o.1.bytes.toArray⟩) := by rw [hrl.cellAt _ (by have := HN.out; omega)]; exact e3
              obtain ⟨af, cf, hv, p1, p2, p3, p4⟩ := (hw.rf o (List.mem_of_getElem? ho)).form
              rw [hv] at f1
              have j0 : (0 : Int) ≤ (j : Int) := by omega
              have j1 : (j : Int) < (L.length : Int) := by have := HN.out; omega
              have hm4' : (m4 : Int) ≤ 1000000 := by have := hbf.count; simp at this; rw [hA, List.length_map] at this; have := HBL.out; omega
              have hq0 : (0 : Int) < (m4 : Int) + 1 := by omega
              have HO := Lib.hid ho
              have HAO := Lib.hid hao
              have HRE := Lib.hid hre
              have HOB := Lib.hid hob
              have HBO := Lib.hid hbo
              have HV := Lib.hid hv
              have HM4 := Lib.hid hm4
              have HG := Lib.hid g2
              have HG1 := Lib.hid g1
              subst h4
              clear hgk hwt hbf hroot hedge g3 g4 ho hao hre hob hbo hw hrl hvl' l1 l2 l3 l4 e0 e1 e2 e3 hlen hv p1 p2 p3 p4 hm4 g2 g1
              go_wp2
              go_region_held3 (fun w' => w'.cell? ⟨q, 1, none⟩ = some (.slice (some ⟨gl, 0, none⟩) L.length cl') ∧ w'.cell? ⟨b4, o4, none⟩ = some (.int .i64 (j : Int)) ∧ w'.cell? ⟨gl, j * 4, none⟩ = some (.int .i64 o.1.kind) ∧ w'.cell? ⟨gl, j * 4 + 1, none⟩ = some (.slice af o.1.fields.length cf) ∧ w'.cell? ⟨gl, j * 4 + 2, none⟩ = some (.bool o.1.raw) ∧ w'.cell? ⟨gl, j * 4 + 3, none⟩ = some (.string ⟨o.1.bytes.toArray⟩)) (go_keep) (fail)
              have HND : Hid (∀ W, Calls Try.prog 53 #[.agg #[.int .i64 o.1.kind, .slice af o.1.fields.length cf, .bool o.1.raw, .string ⟨o.1.bytes.toArray⟩]] W fun e w' => e = .returned (.int .i64 (o.1.size : Int)) ∧ Below W.heap.size W w') := fun W => refNeed_any o.1 _ af cf rfl HBO.out.1 HBO.out.2 HOB.out.2 W
              have hT0 : (0 : Int) ≤ (total A done : Int) := by omega
              have hT1 : (total A done : Int) ≤ 4000000000000 := by
                have h1 := total_bound (A := A) (c := 1000001) done (fun i hi => by
                  unfold sizeAt
                  have hl := HBF.out.lt (i := i) (by simp [hi])
                  rw [List.getElem?_eq_getElem hl]
                  have hm : A.objs[i] ∈ L.map (·.1) := hA ▸ List.getElem_mem hl
                  obtain ⟨o', ho', e'⟩ := List.mem_map.1 hm
                  have := bO o' ho'
                  simp only [Option.map_some, Option.getD_some, ← e']
                  unfold Ob.size
                  split <;> omega)
                have h2 := HBF.out.count
                simp only [hA, List.length_map, List.length_cons] at h2
                have h3 := HBL.out
                have h4 : done.length * 1000001 ≤ 1000000 * 1000001 := Nat.mul_le_mul (by omega) (Nat.le_refl _)
                omega
              have hZ0 : (0 : Int) ≤ (o.1.size : Int) := by omega
              have hZ1 : (o.1.size : Int) ≤ 2000001 := by
                have := HBO.out
                unfold Ob.size
                split <;> omega
              have HT9 : Hid (QIs wr w.heap.size (.slice (some ⟨b4, o4 + 1, none⟩) m4 (c4 - 1)) (rest.map Int.ofNat) ∧ (c4 = 1 → QIs wr w.heap.size (.slice (some ⟨b4, o4, none⟩) 0 0) (rest.map Int.ofNat) ∧ m4 = 0)) := by
                obtain ⟨t1, t2⟩ := HWT.out.q.tail
                refine ⟨?_, fun e => ?_⟩
                · rw [HM4.out]
                  rw [List.length_map] at t1
                  exact t1
                · obtain ⟨t3, t4⟩ := t2 e
                  refine ⟨t3, ?_⟩
                  rw [HM4.out]
                  have := congrArg List.length t4
                  simpa using this
              have HB4 : Hid (b4 ≠ w.heap.size ∧ b4 < wr.heap.size ∧ w.heap.size ≤ b4) := by
                have h1 := HWT.out.ne
                have h2 := HWT.out.q.vb_lt b4 (by simp [vb])
                refine ⟨fun e => h1 (by simp [vb, e]), h2.2, h2.1⟩
              have HLL := Lib.hid bL
              rcases Classical.em (c4 = 1) with hc4 | hc4
              focus
                obtain ⟨t3, rfl⟩ := HT9.out.2 hc4
                subst hc4
                have HWX := Lib.hid t3
                clear t3
                go_wp2_with (go_at_call 53; refine (HND.out _).mono ?_; rintro e w5 ⟨rfl, hb5⟩; have HB5 := Lib.hid hb5; clear hb5)
              rotate_left
              focus
                have hc41 : ¬ (c4 : Int) = 1 := by omega
                have hc42 : (1 : Int) ≤ (c4 : Int) := by have := HG1.out; simp at this; omega
                have HWX := Lib.hid HT9.out.1
                go_wp2_with (go_at_call 53; refine (HND.out _).mono ?_; rintro e w5 ⟨rfl, hb5⟩; have HB5 := Lib.hid hb5; clear hb5)
              all_goals
                have HC5 : Hid (Chg [] wr w5 ∧ w5.heap[wr.heap.size]? = some (.cells #[.int .i64 o.1.kind, .slice af o.1.fields.length cf, .bool o.1.raw, .string ⟨o.1.bytes.toArray⟩] 82 (0, 0)) ∧ w.heap.size ≤ wr.heap.size) := by
                  have h := HB5.out
                  refine ⟨?_, ?_, HWT.out.n⟩
                  · exact (((Chg.refl [] wr).alloc _).drewN 1).trans (chg_of_below h) (fun k hk => .inr (by have := (List.mem_range'_1.1 hk).1; simp at this; omega))
                  · rw [h.block _ (by simp)]
                    exact heap_alloc_new wr _
                obtain ⟨w4, hw4⟩ : ∃ x, x = wr := ⟨_, rfl⟩
                subst hw4
                obtain ⟨gk0, hgk0⟩ : ∃ x, x = gk := ⟨_, rfl⟩
                subst hgk0
                go_loopg [4, 10, 11] o.1.fields.length (fun gk s4 s10 s11 wr2 => FLoop A w w.heap.size n o.1.fields w4.heap.size #[.int .i64 o.1.kind, .slice af o.1.fields.length cf, .bool o.1.raw, .string ⟨o.1.bytes.toArray⟩] (done ++ [j]) rest gk s4 s10 wr2)
                case atStart =>
                  obtain ⟨h1, h2, h3⟩ := HC5.out
                  have hq := HWX.out
                  refine ⟨0, B, rest, rfl, Nat.zero_add _, ⟨hq.chg h1 (by simp), HWT.out.m.chg h1 (by simp), ?_, HWT.out.b.trans (h1.below h3 (by simp)), Nat.le_trans h3 h1.size⟩, HBF.out.step, fun x hx => hx, fun k r hk => absurd hk (Nat.not_lt_zero _), h2, by have := HWT.out.m.1.lt (k := w.heap.size) rfl; omega, fun hm => by have := hq.vb_lt _ hm; omega, h3⟩
                  simp [vb]
                  exact fun e => HB4.out.1 e.symm
                case round =>
                  obtain ⟨i, B2, ws2, rfl, hig, hwt, hbf, hall, hseen, hbx, hbx1, hbx2, hbx3⟩ := hrel
                  have i0 : (0 : Int) ≤ (i : Int) := by omega
                  have c1x : wr.cell? ⟨w4.heap.size, 1, none⟩ = some (.slice af o.1.fields.length cf) := by simp [World.cell?, hbx]
                  obtain ⟨a4, c4, h4, _⟩ := hwt.q
                  obtain ⟨m4, hm4⟩ : ∃ m, m = (ws2.map Int.ofNat).length := ⟨_, rfl⟩
                  rw [← hm4] at h4
                  have HM42 := Lib.hid hm4
                  have HWL : Hid (ws2.length ≤ 1000000) := by have := hbf.count; rw [hA, List.length_map] at this; have := HBL.out; show _ ≤ _; omega
                  have HIG := Lib.hid hig
                  have HWT2 := Lib.hid hwt
                  have HBF2 := Lib.hid hbf
                  have HALL := Lib.hid hall
                  have HSN := Lib.hid hseen
                  have HBX := Lib.hid (And.intro hbx (And.intro hbx1 (And.intro hbx2 hbx3)))
                  subst h4
                  by_cases hlt : i < o.1.fields.length
                  · obtain ⟨r, hx⟩ : ∃ r, o.1.fields[i]? = some r := ⟨_, List.getElem?_eq_getElem hlt⟩
                    have i1 : (i : Int) < (o.1.fields.length : Int) := by omega
                    have i3 : (o.1.fields.length : Int) ≤ 1000000 := by have := HBO.out.1; omega
                    have hrf := (HH.out.later hwt.b).rf o (List.mem_of_getElem? HO.out)
                    rw [HV.out] at hrf
                    obtain ⟨gf, rfl⟩ : ∃ g, af = some ⟨g, 0, none⟩ := by
                      obtain ⟨a, c, e, _, _, f3, f4⟩ := hrf.form
                      cases e
                      cases af with
                      | none => have := (f3 rfl).1; omega
                      | some a => obtain ⟨g, rfl, _⟩ := f4 a rfl; exact ⟨g, rfl⟩
                    obtain ⟨e0, e1⟩ := rcells_get hx
                    have hlen := rcells_length o.1.fields
                    have d0 : wr.cell? ⟨gf, i * 2, none⟩ = some (.bool r.obj) := by rw [hrf.cellAt _ (by omega)]; exact e0
                    have d1 : wr.cell? ⟨gf, i * 2 + 1, none⟩ = some (.int .i64 r.n) := by rw [hrf.cellAt _ (by omega)]; exact e1
                    have HX := Lib.hid hx
                    have HED2 : Hid (A.Edge j r) := by
                      refine ⟨o.1, HAO.out, ?_, List.mem_of_getElem? hx⟩
                      cases hraw : o.1.raw
                      · rfl
                      · have := HOB.out.2.1 hraw
                        rw [this] at hlt
                        simp at hlt
                    obtain ⟨b, k⟩ := r
                    have HOK : Hid (b = true → ∃ j' : Nat, k = j' ∧ A.Reach j' ∧ j' < n) := by
                      intro hb
                      have h0 := hwf.fieldObj j _ HRE.out HED2.out hb
                      have h0 : 0 ≤ k := h0
                      have hre : A.Reach k.toNat := HRE.out.edge HED2.out ⟨hb, by show k = _; omega⟩
                      exact ⟨k.toNat, by omega, hre, by have := hwf.there _ hre; rw [hA, List.length_map] at this; have := HN.out; omega⟩
                    clear hig hwt hbf hall hseen hbx hbx1 hbx2 hbx3 hm4 hx hrf e0 e1 hlen
                    have i2 : ((0 : Int) ≤ (i : Int) + 1) := by omega
                    cases b
                    · go_wp2
                      go_roundg (gk - 1)
                      case measure => have := HIG.out; omega
                      case rel =>
                        have hc : Chg [] wr (wr.alloc (.cells #[.bool false, .int .i64 k] 27)) := (Chg.refl [] wr).alloc _
                        obtain ⟨b1, b2, b3, b4⟩ := HBX.out
                        refine ⟨i + 1, B2, ws2, by go_num, by have := HIG.out; omega, HWT2.out.chg hc (by simp) (by simp) (by simp), HBF2.out, HALL.out, (fun j' r hj hr hb => ?_), (hc.block _ (lt_of_block b1) (by simp)).trans b1, b2, b3, b4⟩
                        rcases Nat.lt_or_ge j' i with h | h
                        · exact HSN.out j' r h hr hb
                        · obtain rfl : j' = i := by omega
                          rw [HX.out] at hr; cases hr; cases hb
                    · obtain ⟨jj, rfl, hre, hjn⟩ := HOK.out rfl
                      have HRE2 := Lib.hid hre
                      have jj0 : (0 : Int) ≤ (jj : Int) := by omega
                      have jj1 : (jj : Int) < (n : Int) := by omega
                      have hBl : B2.length = n := by rw [HBF2.out.len, hA, List.length_map, HN.out]
                      obtain ⟨bb, hbb⟩ : ∃ bb, B2[jj]? = some bb := ⟨_, List.getElem?_eq_getElem (by omega)⟩
                      have d2 : wr.cell? ⟨w.heap.size, jj, none⟩ = some (.bool bb) := by
                        rw [HWT2.out.m.1.cellAt jj (by unfold bcells; rw [List.length_map]; omega)]
                        unfold bcells
                        rw [List.getElem?_map, hbb]
                        rfl
                      have d2a : ∀ o, (wr.alloc o).cell? ⟨w.heap.size, jj, none⟩ = some (.bool bb) := fun o => by rw [World.cell?_alloc_some _ _ _ (by rw [d2]; rfl)]; exact d2
                      have d3 : ∀ o, (wr.alloc o).frozen? ⟨w.heap.size, jj, none⟩ = false := fun o => World.ownsRow.frozenAt (HWT2.out.chg ((Chg.refl [] wr).alloc o) (by simp) (by simp) (by simp)).m.1 _
                      have HBB := Lib.hid hbb
                      clear hBl hbb hre HOK
                      cases bb
                      · have hsz : w.heap.size < wr.heap.size := HWT2.out.m.1.lt rfl
                        have hgg : w.heap.size ≠ wr.heap.size := by omega
                        have HSZ := Lib.hid hsz
                        clear hsz hjn
                        have HWT3 : Hid (∀ o, Wait w w.heap.size w.heap.size n (.slice a4 m4 c4) B2 ws2 (wr.alloc o)) := fun o => HWT2.out.chg ((Chg.refl [] wr).alloc o) (by simp) (by simp) (by simp)
                        have HQ : Hid (∀ o o2, QIs (((wr.alloc o).setCell ⟨w.heap.size, jj, none⟩ (.bool true)).alloc o2) w.heap.size (.slice a4 m4 c4) (ws2.map Int.ofNat)) := fun o o2 => ((HWT3.out o).q.chg (chg_set (wr.alloc o) w.heap.size _ _) (fun k hk e => by simp at e; subst e; exact (HWT3.out o).ne hk)).chg ((Chg.refl [] _).alloc o2) (by simp)
                        have HNS := Lib.hid HWT2.out.n
                        go_wp2_with (at_builtin; refine wpList_qapp rfl (.tmp 125) (.tmp 128) rfl rfl (HQ.out _ _) (by have := HNS.out; simp; omega) rfl (cell_new_0 _ _ _ _ (by simp)) rfl (by have := HWL.out; simp; omega) ?_; intro ao7 cap7 w7 hq'; have HQ7 := Lib.hid hq'; clear hq')
                        go_roundg (gk - 1)
                        case measure => have := HIG.out; omega
                        case rel =>
                          obtain ⟨m1, m2, m3⟩ := (HWT3.out _).mark ((Chg.refl [] _).alloc _) HQ7.out
                          rw [List.length_map] at m1 m3
                          obtain ⟨b1, b2, b3, b4⟩ := HBX.out
                          have hbl := lt_of_block b1
                          have hm : w4.heap.size ∉ w.heap.size :: vb (.slice a4 m4 c4) := by
                            simp only [List.mem_cons, not_or]
                            exact ⟨b2, b3⟩
                          have m2' := ((Chg.refl (w.heap.size :: vb (.slice a4 m4 c4)) wr).alloc (.cells #[.bool true, .int .i64 (jj : Int)] 27)).trans m2 (fun k hk => .inl hk)
                          have hz1 := (m2'.block _ hbl hm).trans b1
                          have hz2 := HBF2.out.mark HBB.out HRE2.out
                          have hz3 : i + 1 + (gk - 1) = o.1.fields.length := by have := HIG.out; omega
                          clear m2' m2 HQ7 HQ
                          refine ⟨i + 1, B2.set jj true, ws2 ++ [jj], ?_, hz3, m1, hz2, fun x hx => ?_, fun j' r hj hr hb => ?_, hz1, b2, fun hv => ?_, b4⟩
                          · rfl
                          · rw [← List.append_assoc]
                            exact List.mem_append_left _ (HALL.out x hx)
                          · rw [← List.append_assoc]
                            rcases Nat.lt_or_ge j' i with h | h
                            · exact List.mem_append_left _ (HSN.out j' r h hr hb)
                            · obtain rfl : j' = i := by omega
                              rw [HX.out] at hr
                              cases hr
                              exact List.mem_append_right _ (by simp [Ref.ix])
                          · rcases m3 _ hv with e | e
                            · exact b3 e
                            · simp at e; omega
                      · clear hjn
                        go_wp2
                        go_roundg (gk - 1)
                        case measure => have := HIG.out; omega
                        case rel =>
                          have hc : Chg [] wr (wr.alloc (.cells #[.bool true, .int .i64 (jj : Int)] 27)) := (Chg.refl [] wr).alloc _
                          obtain ⟨b1, b2, b3, b4⟩ := HBX.out
                          refine ⟨i + 1, B2, ws2, by go_num, by have := HIG.out; omega, HWT2.out.chg hc (by simp) (by simp) (by simp), HBF2.out, HALL.out, (fun j' r hj hr hb => ?_), (hc.block _ (lt_of_block b1) (by simp)).trans b1, b2, b3, b4⟩
                          rcases Nat.lt_or_ge j' i with h | h
                          · exact HSN.out j' r h hr hb
                          · obtain rfl : j' = i := by omega
                            rw [HX.out] at hr
                            cases hr
                            exact (HBF2.out.mem jj).1 HBB.out
                  · have i1 : ¬ (i : Int) < (o.1.fields.length : Int) := by omega
                    have HSA : Hid (total A (done ++ [j]) = total A done + o.1.size) := by
                      show _ = _
                      rw [total_append, total_one]
                      unfold sizeAt
                      rw [HAO.out]
                      rfl
                    have hcn := HBF.out.count
                    rw [hA, List.length_map, List.length_cons] at hcn
                    have HCN := Lib.hid hcn
                    clear hig hwt hbf hall hseen hbx hbx1 hbx2 hbx3 hm4 hcn
                    go_wp2
                    go_roundg (gk0 - 1)
                    case measure => have := HGK.out; have := HCN.out; have := HN.out; omega
                    case rel =>
                      refine ⟨B2, done ++ [j], ws2, by rw [HSA.out]; go_num, by have := HGK.out; have := HCN.out; have := HN.out; rw [List.length_append, List.length_singleton]; omega, HWT2.out, HBF2.out, fun r hr hb => ?_, fun i' r hi he hb => ?_⟩
                      · refine HALL.out _ ?_
                        have := HRT.out r hr hb
                        simpa using this
                      · rw [List.mem_append, List.mem_singleton] at hi
                        rcases hi with hi | rfl
                        · refine HALL.out _ ?_
                          have := HED.out i' r hi he hb
                          simpa using this
                        · obtain ⟨o', ho', _, hr'⟩ := he
                          rw [HAO.out] at ho'
                          cases ho'
                          obtain ⟨k, hk⟩ := List.mem_iff_getElem?.1 hr'
                          have hkl := (List.getElem?_eq_some_iff.1 hk).1
                          exact HSN.out k r (by omega) hk hb
end
end Go.Proofs.Ytlbiapgikkjooaa
