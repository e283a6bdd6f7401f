/- What the calls of a heap come to, first part: words, New, Push, Top, Drop, Height, Pin, Pinned, Unpin. -/
import Derived.Test.YtlbiapgikkjooaaHeapMem
namespace Go.Proofs.Ytlbiapgikkjooaa
open Go.RowKit Go.Maps Hp
set_option linter.unusedSimpArgs false
set_option linter.unusedVariables false
set_option linter.unusedSectionVars false

theorem ret_int {k : IntKind} {a b : Int} (h : a = b) : Ending.returned (.int k a) = .returned (.int k b) := by rw [h]
theorem ret_bool {a b : Bool} (h : a = b) : Ending.returned (.bool a) = .returned (.bool b) := by rw [h]
theorem qs {P : Program} {f : FuncId} {args : Array Value} {w : World} {n : Nat} {v : Value}
    (h : Calls P f args (w.drewN n) fun e w' => e = .returned v ∧ w.drewN n = w') : Calls P f args (w.drewN n) fun e w'' => e = .returned v ∧ ∃ m, w'' = w.drewN m :=
  h.mono fun _ _ ⟨he, hm⟩ => ⟨he, n, hm.symm⟩

theorem qs2 {P : Program} {f : FuncId} {args : Array Value} {w : World} {a n : Nat} {v : Value}
    (h : Calls P f args (w.drewN (a + n)) fun e w' => e = .returned v ∧ w.drewN (a + n) = w') :
    Calls P f args (w.drewN (a + n)) fun e w'' => e = .returned v ∧ ∃ m, w'' = w.drewN (a + m) :=
  h.mono fun _ _ ⟨he, hm⟩ => ⟨he, n, hm.symm⟩
theorem qd {P : Program} {f : FuncId} {args : Array Value} {w : World} {n : Nat} {v : Value}
    (h : Calls P f args (w.drewN n) fun e w' => e = .returned v ∧ ∃ m, w' = (w.drewN n).drewN m) : Calls P f args (w.drewN n) fun e w'' => e = .returned v ∧ ∃ m, w'' = w.drewN m :=
  h.mono fun _ _ ⟨he, m, hm⟩ => ⟨he, n + m, by rw [hm, World.drewN_drewN]⟩
theorem qd2 {P : Program} {f : FuncId} {args : Array Value} {w : World} {a n : Nat} {v : Value}
    (h : Calls P f args (w.drewN (a + n)) fun e w' => e = .returned v ∧ ∃ m, w' = (w.drewN (a + n)).drewN m) :
    Calls P f args (w.drewN (a + n)) fun e w'' => e = .returned v ∧ ∃ m, w'' = w.drewN (a + m) :=
  h.mono fun _ _ ⟨he, m, hm⟩ => ⟨he, n + m, by rw [hm, World.drewN_drewN, Nat.add_assoc]⟩

theorem wrap_any (n : Int) (w : World) : Calls Try.prog 44 #[.int .i64 n] w fun e w' => e = .returned (.int .i64 (wr n)) ∧ w = w' := by
  go_enter Try.func44, Try.ntmps44
  go_wp2
  go_ret
  exact ⟨ret_int (shl_shr n), rfl⟩

theorem imm_any (n : Int) (w : World) : Calls Try.prog 9 #[.int .i64 n] w fun e w' => e = .returned (.int .i64 (2 * wr n + 1)) ∧ w = w' := by
  have h1 := wr_ge n
  have h2 := wr_le n
  have H := Lib.hid (or1 (wr n) h1 h2)
  go_enter Try.func9, Try.ntmps9
  go_wp2_with (go_at_call 44; refine (wrap_any _ _).mono ?_; rintro e w' ⟨rfl, rfl⟩)
  go_ret
  exact ⟨ret_int H.out, rfl⟩

theorem isImm_any (n : Int) (w : World) : Calls Try.prog 11 #[.int .i64 n] w fun e w' => e = .returned (.bool (n % 2 == 1)) ∧ w = w' := by
  have H := Lib.hid (and1 n)
  go_enter Try.func11, Try.ntmps11
  go_wp2
  go_ret
  exact ⟨ret_bool (by rw [H.out]), rfl⟩

theorem int_any (n : Int) (w : World) : Calls Try.prog 12 #[.int .i64 n] w fun e w' => e = .returned (.int .i64 (n / 2)) ∧ w = w' := by
  go_enter Try.func12, Try.ntmps12
  go_wp2
  go_ret
  exact ⟨rfl, rfl⟩
theorem at_any (n : Int) (w : World) : Calls Try.prog 49 #[.int .i64 n] w fun e w' => e = .returned (.int .i64 (n / 2)) ∧ w = w' := by
  go_enter Try.func49, Try.ntmps49
  go_wp2
  go_ret
  exact ⟨rfl, rfl⟩
theorem object_any (n : Int) (h0 : 0 ≤ n) (h1 : n ≤ 4194304) (w : World) : Calls Try.prog 47 #[.int .i64 n] w fun e w' => e = .returned (.int .i64 (2 * n)) ∧ w = w' := by
  go_enter Try.func47, Try.ntmps47
  go_wp2
  go_ret
  exact ⟨ret_int (by omega), rfl⟩

/-- A world behind a call of a heap: what the heap is now, and that nothing else has turned. -/
def HeapEnd (w : World) (p bp np : Nat) (vc vs : Value) (lim : Nat) (cells stack : List Int) (pins : Int → Option Int) (r : Value) (e : Ending) (w' : World) : Prop :=
  e = .returned r ∧ ∃ vc' vs', HeapIs w' p bp np vc' vs' lim cells stack pins ∧ Chg (foot p bp vc vs) w w' ∧ Within (foot p bp vc vs) (foot p bp vc' vs') w.heap.size

def NewEnd (n : Int) (w : World) (e : Ending) (w' : World) : Prop :=
  ∃ p bp, e = .returned (.tuple #[.pointer (some ⟨p, 0, none⟩), .int .i64 0]) ∧ HeapIs w' p bp 0 (.slice none 0 0) (.slice none 0 0) n.toNat [] [] (fun _ => none) ∧ Chg [] w w' ∧ w.heap.size ≤ p ∧ w.heap.size ≤ bp

theorem new_any (n : Int) (h0 : 0 ≤ n) (h1 : n ≤ 4194304) (w : World) : Calls Try.prog 14 #[.int .i64 n] w (NewEnd n w) := by
  have hmm := @run_makeMap Try.prog
  go_enter Try.func14, Try.ntmps14
  go_wp2
  go_ret2
  have e : n = ((n.toNat : Nat) : Int) := by omega
  refine ⟨w.heap.size + 1, w.heap.size, rfl, ⟨?_, Row.nil _ _, Row.nil _ _, (IMap.made w).chg ((Chg.refl [] _).alloc _) (by simp), by omega, by simp [Value.ownBlock], by simp [Value.ownBlock], by simp [Value.ownBlock], by simp [Value.ownBlock], by simp [Value.ownBlock]⟩, ((Chg.refl [] w).alloc _).alloc _, by omega, by omega⟩
  have e2 := heap_alloc_new (w.alloc (Obj.map #[] 0)) (Obj.cells #[Value.int .i64 n, Value.slice none 0 0, Value.slice none 0 0, Value.map (some w.heap.size)] 76)
  simp only [World.size_alloc] at e2
  rw [e2, ← e]

theorem push_any (w : World) (p bp np : Nat) (vc vs : Value) (lim : Nat) (cells stack : List Int) (pins : Int → Option Int) (h : HeapIs w p bp np vc vs lim cells stack pins) (x : Int) (hst : stack.length < 1000000000) :
    Calls Try.prog 15 #[.pointer (some ⟨p, 0, none⟩), .int .i64 x] w (HeapEnd w p bp np vc vs lim cells (stack ++ [x]) pins (.tuple #[])) := by
  have c2 := h.c2
  have hl := ints_length stack
  have hown := Lib.hid (World.ownsRow.alloc h.rs (.cells #[.int .i64 x] 22))
  have HL := Lib.hid hl
  clear hl
  have H := Lib.hid h
  clear h
  go_enter Try.func15, Try.ntmps15
  go_wp2_with (at_builtin; refine wpList_app _ rfl _ _ 74 rfl 22 (.int .i64 0) 8 Try.underlying74 infoW rfl vs (ints stack) rfl hown.out ⟨w.heap.size, 0, none⟩ 1 1 [.int .i64 x] rfl (by omega) rfl (cell_one_new _ _ _) (ints_oneCell .i64 [x]) (by rw [HL.out]; omega) (by omega) ?_; intro g cap w1 hr1 hg1 hl1; have hd1 := H.out.stackApp_hdr hg1; have f2 := hdr_free hd1 2; have c2' := hdr_cell2 hd1; clear hd1)
  go_end0
  obtain ⟨r1, r2, r3⟩ := H.out.stackApp_is (stack' := stack ++ [x]) (v' := .slice (some ⟨g, 0, none⟩) ((ints stack).length + 1) cap) hg1 (by rw [ints_append]; exact hr1) (hl1.imp (fun e => e.symm) (fun e => by simp at e; simp [Value.ownBlock, e]))
  exact ⟨rfl, _, _, r1, r2, r3⟩

theorem height_any (w : World) (p bp np : Nat) (vc vs : Value) (lim : Nat) (cells stack : List Int) (pins : Int → Option Int) (h : HeapIs w p bp np vc vs lim cells stack pins) :
    Calls Try.prog 19 #[.pointer (some ⟨p, 0, none⟩)] w fun e w' => e = .returned (.int .i64 stack.length) ∧ w = w' := by
  have c2 := h.c2
  obtain ⟨ao, cap, rfl, _, _, _, _⟩ := h.rs.form
  clear h
  rw [ints_length] at c2
  go_enter Try.func19, Try.ntmps19
  go_wp2
  go_ret
  exact ⟨rfl, rfl⟩

theorem cells_any (w : World) (p bp np : Nat) (vc vs : Value) (lim : Nat) (cells stack : List Int) (pins : Int → Option Int) (h : HeapIs w p bp np vc vs lim cells stack pins) :
    Calls Try.prog 32 #[.pointer (some ⟨p, 0, none⟩)] w fun e w' => e = .returned (.int .i64 lim) ∧ w = w' := by
  have c0 := h.c0
  clear h
  go_enter Try.func32, Try.ntmps32
  go_wp2
  go_ret
  exact ⟨rfl, rfl⟩

/-- A slot of the stack, from its top. -/
def topOf (stack : List Int) (i : Int) : Int := if 0 ≤ i ∧ i < stack.length then stack.getD (stack.length - 1 - i.toNat) 1 else 1

theorem imm0 : (2 * wr 0 + 1 : Int) = 1 := by decide

theorem top_any (w : World) (p bp np : Nat) (vc vs : Value) (lim : Nat) (cells stack : List Int) (pins : Int → Option Int) (h : HeapIs w p bp np vc vs lim cells stack pins) (i : Int) :
    Calls Try.prog 21 #[.pointer (some ⟨p, 0, none⟩), .int .i64 i] w fun e w' => e = .returned (.int .i64 (topOf stack i)) ∧ ∃ n, w' = w.drewN n := by
  have c2 := h.c2
  have hr := h.rs
  obtain ⟨ao, cap, rfl, hc1, hc2, hnone, hsome⟩ := h.rs.form
  clear h
  rw [ints_length] at c2 hc1
  unfold maxLen at hc2
  by_cases hi : 0 ≤ i ∧ i < stack.length
  · obtain ⟨k, rfl⟩ := Int.eq_ofNat_of_zero_le hi.1
    have hk : k < stack.length := by omega
    cases ao with
    | none => have := (hnone rfl).1; have hl := ints_length stack; rw [this] at hl; simp at hl; omega
    | some a =>
      obtain ⟨g, rfl, _⟩ := hsome a rfl
      have hcell := hr.cellAt (stack.length - 1 - k) (by rw [ints_length]; omega)
      rw [ints_get, List.getElem?_eq_getElem (by omega)] at hcell
      have e : topOf stack k = stack[stack.length - 1 - k]'(by omega) := by
        unfold topOf; rw [if_pos hi, Int.toNat_natCast, List.getD_eq_getElem?_getD, List.getElem?_eq_getElem (by omega)]; rfl
      simp only [Option.map_some] at hcell
      rw [← e] at hcell
      clear e hr hnone hsome hi
      go_enter Try.func21, Try.ntmps21
      go_wp2
      go_quiet (fail)
      go_wp2
      go_ret
      exact ⟨rfl, _, rfl⟩
  · have e : topOf stack i = 1 := by unfold topOf; rw [if_neg hi]
    have E := Lib.hid e
    clear e hr hnone hsome
    by_cases h0 : i < 0
    · clear hi
      go_enter Try.func21, Try.ntmps21
      go_wp2_with (go_at_call 9; refine (imm_any _ _).mono ?_; rintro e w' ⟨rfl, rfl⟩)
      go_ret
      exact ⟨by rw [E.out]; exact ret_int imm0, 0, rfl⟩
    · have h1 : (stack.length : Int) ≤ i := by omega
      clear hi
      go_enter Try.func21, Try.ntmps21
      go_wp2_with (go_at_call 9; refine (imm_any _ _).mono ?_; rintro e w' ⟨rfl, rfl⟩)
      go_ret
      exact ⟨by rw [E.out]; exact ret_int imm0, 0, rfl⟩

/-- How many are dropped. -/
def dropOf (n : Int) : Nat := (max n 0).toNat
theorem drop_any (w : World) (p bp np : Nat) (vc vs : Value) (lim : Nat) (cells stack : List Int) (pins : Int → Option Int) (h : HeapIs w p bp np vc vs lim cells stack pins) (n : Int) :
    Calls Try.prog 17 #[.pointer (some ⟨p, 0, none⟩), .int .i64 n] w (HeapEnd w p bp np vc vs lim cells (stack.take (stack.length - dropOf n)) pins (.tuple #[])) := by
  have c2 := h.c2
  have f2 := h.fr 2
  have hr := h.rs
  obtain ⟨ao, cap, rfl, hc1, hc2, hnone, hsome⟩ := h.rs.form
  have H := Lib.hid h
  clear h
  rw [ints_length] at c2 hc1
  unfold maxLen at hc2
  go_enter Try.func17, Try.ntmps17
  go_wp2
  go_region
  go_end0
  have e : ((stack.length : Int) - if (stack.length : Int) < if n < 0 then 0 else n then (stack.length : Int) else if n < 0 then 0 else n).toNat = stack.length - dropOf n := by
    unfold dropOf
    have : (if n < 0 then 0 else n) = max n 0 := by omega
    rw [this]
    omega
  rw [e]
  have h := H.out
  have hr2 := hr.takeAny (stack.length - dropOf n) (by rw [ints_length]; omega)
  have e2 : (ints stack).take (stack.length - dropOf n) = ints (stack.take (stack.length - dropOf n)) := by simp [ints]
  rw [e2] at hr2
  have h2 := h.setStack hr2 (.inl (ownBlock_slice _ _ _ _))
  have hf : ∀ m, foot p bp vc (.slice ao m cap) = foot p bp vc (.slice ao (ints stack).length cap) := fun m => by unfold foot; rw [ownBlock_slice ao m (ints stack).length cap]
  refine ⟨rfl, vc, _, h2.drewN 1, ((Chg.refl _ w).setCell (p := ⟨p, 2, none⟩) (.inl (mem_foot.2 (.inl rfl))) _).drewN 1, ?_⟩
  rw [hf (stack.length - dropOf n)]; exact Within.refl _ _

theorem pin_any (w : World) (p bp np : Nat) (vc vs : Value) (lim : Nat) (cells stack : List Int) (pins : Int → Option Int) (h : HeapIs w p bp np vc vs lim cells stack pins) (k x : Int) (hk : (Lit.int .i64 k).wf = true) (hx : (Lit.int .i64 x).wf = true) (hn : np < 1000000000) :
    Calls Try.prog 20 #[.pointer (some ⟨p, 0, none⟩), .int .i64 k, .int .i64 x] w (HeapEnd w p bp (np + 1) vc vs lim cells stack (fun j => if j = k then some x else pins j) (.tuple #[])) := by
  have c3 := h.c3
  have hm := Lib.hid h.pm
  have H := Lib.hid h
  clear h
  go_enter Try.func20, Try.ntmps20
  go_wp2_with (at_mapUpdate; refine wpList_update_imap rfl _ _ _ 73 rfl Try.underlying3 Try.underlying73 Try.underlying22 hm.out (by unfold maxLen; omega) rfl k x rfl rfl hk hx ?_; intro w1 hm1 hg1)
  go_end0
  have h := H.out
  have hc : Chg [bp] w w1 := (Chg.refl [bp] w).grown hg1 (fun j hj => by cases hj; simp)
  refine ⟨rfl, vc, vs, ⟨(hc.block p (lt_of_block h.hdr) (by simpa using h.ne1)).trans h.hdr, h.rc.chg hc (fun j hj => by rw [List.mem_singleton]; rintro rfl; exact h.ne3 hj), h.rs.chg hc (fun j hj => by rw [List.mem_singleton]; rintro rfl; exact h.ne5 hj), hm1, h.ne1, h.ne2, h.ne3, h.ne4, h.ne5, h.ne6⟩, hc.mono (fun j hj => by rw [List.mem_singleton] at hj; exact mem_foot.2 (.inr (.inl hj))), Within.refl _ _⟩

theorem unpin_any (w : World) (p bp np : Nat) (vc vs : Value) (lim : Nat) (cells stack : List Int) (pins : Int → Option Int) (h : HeapIs w p bp np vc vs lim cells stack pins) (k : Int) (hk : (Lit.int .i64 k).wf = true) :
    Calls Try.prog 24 #[.pointer (some ⟨p, 0, none⟩), .int .i64 k] w (HeapEnd w p bp np vc vs lim cells stack (fun j => if j = k then none else pins j) (.tuple #[])) := by
  have c3 := h.c3
  have hm := Lib.hid h.pm
  have H := Lib.hid h
  clear h
  go_enter Try.func24, Try.ntmps24
  go_wp2_with (at_delete; refine wpList_delete_imap rfl _ _ 73 rfl Try.underlying3 Try.underlying73 hm.out rfl k rfl hk ?_; intro w1 hm1 hg1)
  go_end0
  have h := H.out
  have hc : Chg [bp] w w1 := (Chg.refl [bp] w).grown hg1 (fun j hj => by cases hj; simp)
  refine ⟨rfl, vc, vs, ⟨(hc.block p (lt_of_block h.hdr) (by simpa using h.ne1)).trans h.hdr, h.rc.chg hc (fun j hj => by rw [List.mem_singleton]; rintro rfl; exact h.ne3 hj), h.rs.chg hc (fun j hj => by rw [List.mem_singleton]; rintro rfl; exact h.ne5 hj), hm1, h.ne1, h.ne2, h.ne3, h.ne4, h.ne5, h.ne6⟩, hc.mono (fun j hj => by rw [List.mem_singleton] at hj; exact mem_foot.2 (.inr (.inl hj))), Within.refl _ _⟩

theorem zeroW (w : World) : (zeroValue 22).run Try.prog w = .ok (.int .i64 0) w := by kernel_rfl

theorem pinned_any (w : World) (p bp np : Nat) (vc vs : Value) (lim : Nat) (cells stack : List Int) (pins : Int → Option Int) (h : HeapIs w p bp np vc vs lim cells stack pins) (k : Int) (hk : (Lit.int .i64 k).wf = true) :
    Calls Try.prog 22 #[.pointer (some ⟨p, 0, none⟩), .int .i64 k] w fun e w' => e = .returned (.tuple #[.int .i64 ((pins k).getD 0), .bool (pins k).isSome]) ∧ w = w' := by
  have c3 := h.c3
  have hm := Lib.hid h.pm
  clear h
  go_enter Try.func22, Try.ntmps22
  go_wp2_with (at_lookup; refine wpList_lookup_imap rfl _ _ 73 rfl Try.underlying3 Try.underlying73 Try.underlying22 (zeroW _) hm.out rfl k rfl hk ?_; intro hwf)
  go_ret2
  exact ⟨rfl, rfl⟩
end Go.Proofs.Ytlbiapgikkjooaa
