/- What the calls of a heap come to, second part: what is read of an object; Set, Pop. -/
import Derived.Test.YtlbiapgikkjooaaHeapWalk1
namespace Go.Proofs.Ytlbiapgikkjooaa
open Go.RowKit Go.Maps Hp
set_option linter.unusedSimpArgs false
set_option linter.unusedVariables false
set_option linter.unusedSectionVars false

theorem st {P : Program} {f : FuncId} {args : Array Value} {w : World} {v : Value}
    (h : Calls P f args w fun e w' => e = .returned v ∧ w = w') : Calls P f args w fun e w' => e = .returned v ∧ w' = w :=
  h.mono fun _ _ ⟨he, hm⟩ => ⟨he, hm.symm⟩

/-- What is known of a head. -/
structure HeadIs (hd : Int) (o : Ob) : Prop where
  raw : bits .and .i64 hd 1024 = if o.raw then 1024 else 0
  kind : bits .and .i64 hd 1023 = (o.kind : Int)
  count : hd / 2048 = ((if o.raw then o.bytes.length else o.fields.length : Nat) : Int)
  pos : 0 ≤ hd
  small : hd ≤ 100000000000

theorem head_is (o : Ob) (hk : o.kind ≤ 1000) (hs : o.size ≤ 4194304) : HeadIs (head o) o := by
  have hsz : (if o.raw then (o.bytes.length + 7) / 8 else o.fields.length) ≤ 4194303 := by unfold Ob.size at hs; omega
  have key : ∃ n : Nat, head o = (n : Int) ∧ n < 9223372036854775808 := by
    unfold head
    cases hr : o.raw
    · rw [hr] at hsz
      simp only [Bool.false_eq_true, if_false] at hsz ⊢
      exact ⟨o.fields.length * 2048 + o.kind, by omega, by omega⟩
    · rw [hr] at hsz
      simp only [if_true] at hsz ⊢
      exact ⟨o.bytes.length * 2048 + 1024 + o.kind, by omega, by omega⟩
  obtain ⟨n, hn, hlt⟩ := key
  have h1 := and_1024 n hlt
  have h2 := and_1023 n hlt
  unfold head at hn
  cases hr : o.raw
  · rw [hr] at hn hsz
    simp only [Bool.false_eq_true, if_false] at hn hsz
    refine ⟨?_, ?_, ?_, ?_, ?_⟩ <;> unfold head <;> rw [hr] <;> simp only [Bool.false_eq_true, if_false]
    · rw [hn, h1]; omega
    · rw [hn, h2]; omega
    · omega
    · omega
    · omega
  · rw [hr] at hn hsz
    simp only [if_true] at hn hsz
    refine ⟨?_, ?_, ?_, ?_, ?_⟩ <;> unfold head <;> rw [hr] <;> simp only [if_true]
    · rw [hn, h1]; omega
    · rw [hn, h2]; omega
    · omega
    · omega
    · omega

theorem isImm_true (x : Int) (hx : x % 2 = 1) (w : World) : Calls Try.prog 11 #[.int .i64 x] w fun e w' => e = .returned (.bool true) ∧ w = w' :=
  (isImm_any x w).mono fun _ _ ⟨he, hw⟩ => ⟨by rw [he, hx]; rfl, hw⟩
theorem isImm_false (x : Int) (hx : x % 2 = 0) (w : World) : Calls Try.prog 11 #[.int .i64 x] w fun e w' => e = .returned (.bool false) ∧ w = w' :=
  (isImm_any x w).mono fun _ _ ⟨he, hw⟩ => ⟨by rw [he, hx]; rfl, hw⟩
theorem at_of (a : Nat) (w : World) : Calls Try.prog 49 #[.int .i64 (2 * (a : Int))] w fun e w' => e = .returned (.int .i64 a) ∧ w = w' :=
  (at_any _ w).mono fun _ _ ⟨he, hw⟩ => ⟨by rw [he]; exact ret_int (by omega), hw⟩

section
variable (w : World) (p g : Nat) (n cap : Nat)

theorem head_imm (x : Int) (hx : x % 2 = 1) : Calls Try.prog 51 #[.pointer (some ⟨p, 0, none⟩), .int .i64 x] w fun e w' => e = .returned (.tuple #[.int .i64 0, .bool false]) ∧ ∃ n, w' = w.drewN n := by
  have H := Lib.hid hx
  clear hx
  go_enter Try.func51, Try.ntmps51
  go_wp2
  go_quiet ((first | (go_at_call 11; exact qs (isImm_true _ H.out _)) | (go_at_call 49; exact qs (at_any _ _))))
  go_wp2
  go_ret2
  exact ⟨rfl, _, rfl⟩

theorem head_obj (a : Nat) (hd : Int) (ha : a < n) (hn : n ≤ 4194304) (c1 : w.cell? ⟨p, 1, none⟩ = some (.slice (some ⟨g, 0, none⟩) n cap)) (cg : w.cell? ⟨g, a, none⟩ = some (.int .i64 hd)) :
    Calls Try.prog 51 #[.pointer (some ⟨p, 0, none⟩), .int .i64 (2 * (a : Int))] w fun e w' => e = .returned (.tuple #[.int .i64 hd, .bool true]) ∧ ∃ n, w' = w.drewN n := by
  have H1 : Hid ((2 * (a : Int)) % 2 = 0) := by show _ = _; omega
  have h3 : decide ((a : Int) < 0) = false := by simp
  have h4 : decide (n ≤ a) = false := by simp; omega
  go_enter Try.func51, Try.ntmps51
  go_wp2
  go_quiet ((first | (go_at_call 11; exact qs (isImm_false _ H1.out _)) | (go_at_call 49; exact qs (at_of _ _))))
  go_wp2
  go_quiet ((go_at_call 49; exact qs2 (at_of _ _)))
  go_wp2
  go_ret2
  exact ⟨rfl, _, World.drewN_drewN _ _ _⟩
end

section
variable {w : World} {p bp np : Nat} {vc vs : Value} {lim : Nat} {stack : List Int} {cells : List Int} {pins : Int → Option Int}

/-- The cells of a heap, in memory. -/
theorem HeapIs.cellsAt (h : HeapIs w p bp np vc vs lim cells stack pins) (hne : cells ≠ []) : ∃ g cap, vc = .slice (some ⟨g, 0, none⟩) cells.length cap ∧ cells.length ≤ cap ∧ cap ≤ maxLen ∧ g < w.heap.size ∧ ∀ j x, cells[j]? = some x → w.cell? ⟨g, j, none⟩ = some (.int .i64 x) := by
  rcases h.rc.shape with ⟨_, hx⟩ | ⟨g, cap, hv, h1, h2, h3⟩
  · exfalso; apply hne; simpa [ints] using hx
  · rw [ints_length] at hv h1
    refine ⟨g, cap, hv, h1, h2, h3, fun j x hx => ?_⟩
    have hr := h.rc
    rw [hv] at hr
    have hj := (List.getElem?_eq_some_iff.1 hx).1
    rw [hr.cellAt j (by rw [ints_length]; omega), ints_get, hx]
    rfl

/-- The head of an object that can be come to. -/
theorem head_any (h : HeapIs w p bp np vc vs lim cells stack pins) (hl : cells.length ≤ 4194304) (a : Nat) (hd : Int) (hc : cells[a]? = some hd) :
    Calls Try.prog 51 #[.pointer (some ⟨p, 0, none⟩), .int .i64 (2 * (a : Int))] w fun e w' => e = .returned (.tuple #[.int .i64 hd, .bool true]) ∧ ∃ n, w' = w.drewN n := by
  have ha := (List.getElem?_eq_some_iff.1 hc).1
  obtain ⟨g, cap, rfl, _, _, _, hat⟩ := h.cellsAt (by intro e; rw [e] at ha; simp at ha)
  exact head_obj w p g cells.length cap a hd ha hl h.c1 (hat a hd hc)

theorem kind_imm (w : World) (p : Nat) (x : Int) (hx : x % 2 = 1) : Calls Try.prog 28 #[.pointer (some ⟨p, 0, none⟩), .int .i64 x] w fun e w' => e = .returned (.int .i64 (-1)) ∧ ∃ n, w' = w.drewN n := by
  have H := Lib.hid hx
  clear hx
  go_enter Try.func28, Try.ntmps28
  go_wp2_with (go_at_call 51; refine (head_imm _ _ _ H.out).mono ?_; rintro e w' ⟨rfl, n, rfl⟩)
  go_ret
  exact ⟨rfl, _, rfl⟩
theorem kind_obj (h : HeapIs w p bp np vc vs lim cells stack pins) (hl : cells.length ≤ 4194304) (a : Nat) (o : Ob) (hc : cells[a]? = some (head o)) (hh : HeadIs (head o) o) :
    Calls Try.prog 28 #[.pointer (some ⟨p, 0, none⟩), .int .i64 (2 * (a : Int))] w fun e w' => e = .returned (.int .i64 o.kind) ∧ ∃ n, w' = w.drewN n := by
  have H := Lib.hid h
  have HC := Lib.hid hc
  have K := Lib.hid hh.kind
  clear h hc hh
  go_enter Try.func28, Try.ntmps28
  go_wp2_with (go_at_call 51; refine (head_any H.out hl a _ HC.out).mono ?_; rintro e w' ⟨rfl, n, rfl⟩)
  go_ret
  exact ⟨ret_int K.out, _, rfl⟩

theorem size_imm (w : World) (p : Nat) (x : Int) (hx : x % 2 = 1) : Calls Try.prog 29 #[.pointer (some ⟨p, 0, none⟩), .int .i64 x] w fun e w' => e = .returned (.int .i64 0) ∧ ∃ n, w' = w.drewN n := by
  have H := Lib.hid hx
  clear hx
  go_enter Try.func29, Try.ntmps29
  go_wp2_with (go_at_call 51; refine (head_imm _ _ _ H.out).mono ?_; rintro e w' ⟨rfl, n, rfl⟩)
  go_ret
  exact ⟨rfl, _, rfl⟩
theorem size_raw (h : HeapIs w p bp np vc vs lim cells stack pins) (hl : cells.length ≤ 4194304) (a : Nat) (o : Ob) (hc : cells[a]? = some (head o)) (hh : HeadIs (head o) o) (hr : o.raw = true) :
    Calls Try.prog 29 #[.pointer (some ⟨p, 0, none⟩), .int .i64 (2 * (a : Int))] w fun e w' => e = .returned (.int .i64 0) ∧ ∃ n, w' = w.drewN n := by
  have H := Lib.hid h
  have HC := Lib.hid hc
  have K : (bits .and .i64 (head o) 1024 != 0) = true := by rw [hh.raw, hr]; rfl
  clear h hc hh hr
  go_enter Try.func29, Try.ntmps29
  go_wp2_with (go_at_call 51; refine (head_any H.out hl a _ HC.out).mono ?_; rintro e w' ⟨rfl, n, rfl⟩)
  go_ret
  exact ⟨rfl, _, rfl⟩
theorem size_fields (h : HeapIs w p bp np vc vs lim cells stack pins) (hl : cells.length ≤ 4194304) (a : Nat) (o : Ob) (hc : cells[a]? = some (head o)) (hh : HeadIs (head o) o) (hr : o.raw = false) :
    Calls Try.prog 29 #[.pointer (some ⟨p, 0, none⟩), .int .i64 (2 * (a : Int))] w fun e w' => e = .returned (.int .i64 o.fields.length) ∧ ∃ n, w' = w.drewN n := by
  have H := Lib.hid h
  have HC := Lib.hid hc
  have K : (bits .and .i64 (head o) 1024 != 0) = false := by rw [hh.raw, hr]; rfl
  have D : Hid (head o / 2048 = (o.fields.length : Int)) := by have := hh.count; rw [hr] at this; show _ = _; simpa using this
  clear h hc hh hr
  go_enter Try.func29, Try.ntmps29
  go_wp2_with (go_at_call 51; refine (head_any H.out hl a _ HC.out).mono ?_; rintro e w' ⟨rfl, n, rfl⟩)
  go_ret
  exact ⟨ret_int D.out, _, rfl⟩

theorem need_raw (hd : Int) (o : Ob) (hh : HeadIs hd o) (hr : o.raw = true) (w : World) : Calls Try.prog 50 #[.int .i64 hd] w fun e w' => e = .returned (.int .i64 (((o.bytes.length + 7) / 8 : Nat) : Int)) ∧ w = w' := by
  have K : (bits .and .i64 hd 1024 != 0) = true := by rw [hh.raw, hr]; rfl
  have D : Hid (hd / 2048 = (o.bytes.length : Int)) := by have := hh.count; rw [hr] at this; show _ = _; simpa using this
  have h1 := hh.pos
  have h2 := hh.small
  clear hh hr
  go_enter Try.func50, Try.ntmps50
  go_wp2
  go_ret
  exact ⟨ret_int (by have := D.out; omega), rfl⟩
theorem need_fields (hd : Int) (o : Ob) (hh : HeadIs hd o) (hr : o.raw = false) (w : World) : Calls Try.prog 50 #[.int .i64 hd] w fun e w' => e = .returned (.int .i64 (o.fields.length : Int)) ∧ w = w' := by
  have K : (bits .and .i64 hd 1024 != 0) = false := by rw [hh.raw, hr]; rfl
  have D : Hid (hd / 2048 = (o.fields.length : Int)) := by have := hh.count; rw [hr] at this; show _ = _; simpa using this
  have h1 := hh.pos
  have h2 := hh.small
  clear hh hr
  go_enter Try.func50, Try.ntmps50
  go_wp2
  go_ret
  exact ⟨ret_int D.out, rfl⟩
/-- An object's cells behind its head. -/
theorem need_any (hd : Int) (o : Ob) (hh : HeadIs hd o) (w : World) : Calls Try.prog 50 #[.int .i64 hd] w fun e w' => e = .returned (.int .i64 ((o.size - 1 : Nat) : Int)) ∧ w = w' := by
  cases hr : o.raw
  · rw [show o.size - 1 = o.fields.length from by unfold Ob.size; rw [hr]; simp]; exact need_fields hd o hh hr w
  · rw [show o.size - 1 = (o.bytes.length + 7) / 8 from by unfold Ob.size; rw [hr]; simp]; exact need_raw hd o hh hr w

theorem field_imm (w : World) (p : Nat) (x i : Int) (hx : x % 2 = 1) : Calls Try.prog 25 #[.pointer (some ⟨p, 0, none⟩), .int .i64 x, .int .i64 i] w fun e w' => e = .returned (.int .i64 1) ∧ ∃ n, w' = w.drewN n := by
  have H := Lib.hid hx
  clear hx
  by_cases h0 : i < 0
  · go_enter Try.func25, Try.ntmps25
    go_wp2_with (first | (go_at_call 29; refine (size_imm _ _ _ H.out).mono ?_; rintro e w' ⟨rfl, n, rfl⟩) | (go_at_call 9; refine (imm_any _ _).mono ?_; rintro e w' ⟨rfl, rfl⟩))
    go_ret
    exact ⟨ret_int imm0, 0, rfl⟩
  · go_enter Try.func25, Try.ntmps25
    go_wp2_with (first | (go_at_call 29; refine (size_imm _ _ _ H.out).mono ?_; rintro e w' ⟨rfl, n, rfl⟩) | (go_at_call 9; refine (imm_any _ _).mono ?_; rintro e w' ⟨rfl, rfl⟩))
    go_ret
    exact ⟨ret_int imm0, _, rfl⟩

/-- A field that is none. -/
theorem field_none (h : HeapIs w p bp np vc vs lim cells stack pins) (hl : cells.length ≤ 4194304) (a : Nat) (o : Ob) (hc : cells[a]? = some (head o)) (hh : HeadIs (head o) o) (hf : o.raw = true → o.fields = []) (i : Int) (hi : i < 0 ∨ (o.fields.length : Int) ≤ i) :
    Calls Try.prog 25 #[.pointer (some ⟨p, 0, none⟩), .int .i64 (2 * (a : Int)), .int .i64 i] w fun e w' => e = .returned (.int .i64 1) ∧ ∃ n, w' = w.drewN n := by
  have S : ∀ W, HeapIs W p bp np vc vs lim cells stack pins → Calls Try.prog 29 #[.pointer (some ⟨p, 0, none⟩), .int .i64 (2 * (a : Int))] W fun e w' => e = .returned (.int .i64 o.fields.length) ∧ ∃ n, w' = W.drewN n := fun W hW => by
    cases hr : o.raw
    · exact size_fields hW hl a o hc hh hr
    · rw [hf hr]; exact size_raw hW hl a o hc hh hr
  have HS := Lib.hid (S w h)
  clear S h hc hh hf
  rcases hi with h0 | h0
  · go_enter Try.func25, Try.ntmps25
    go_wp2_with (first | (go_at_call 29; refine HS.out.mono ?_; rintro e w' ⟨rfl, n, rfl⟩) | (go_at_call 9; refine (imm_any _ _).mono ?_; rintro e w' ⟨rfl, rfl⟩))
    go_ret
    exact ⟨ret_int imm0, 0, rfl⟩
  · have h1 : 0 ≤ i := by omega
    go_enter Try.func25, Try.ntmps25
    go_wp2_with (first | (go_at_call 29; refine HS.out.mono ?_; rintro e w' ⟨rfl, n, rfl⟩) | (go_at_call 9; refine (imm_any _ _).mono ?_; rintro e w' ⟨rfl, rfl⟩))
    go_ret
    exact ⟨ret_int imm0, _, rfl⟩

/-- A field that is there. -/
theorem field_some (h : HeapIs w p bp np vc vs lim cells stack pins) (hl : cells.length ≤ 4194304) (a : Nat) (o : Ob) (hc : cells[a]? = some (head o)) (hh : HeadIs (head o) o) (hr : o.raw = false) (i : Nat) (hi : i < o.fields.length) (x : Int) (hx : cells[a + 1 + i]? = some x) :
    Calls Try.prog 25 #[.pointer (some ⟨p, 0, none⟩), .int .i64 (2 * (a : Int)), .int .i64 (i : Int)] w fun e w' => e = .returned (.int .i64 x) ∧ ∃ n, w' = w.drewN n := by
  have HS := Lib.hid (size_fields h hl a o hc hh hr)
  have ha := (List.getElem?_eq_some_iff.1 hx).1
  obtain ⟨g, cap, rfl, hcap, _, _, hat⟩ := h.cellsAt (by intro e; rw [e] at ha; simp at ha)
  have c1 := h.c1
  have cg := hat _ _ hx
  clear hat h hc hh hr hx
  go_enter Try.func25, Try.ntmps25
  go_wp2_with (first | (go_at_call 29; refine HS.out.mono ?_; rintro e w' ⟨rfl, n, rfl⟩))
  go_quiet ((go_at_call 49; exact qs2 (at_of _ _)))
  go_wp2
  go_ret
  exact ⟨rfl, _, World.drewN_drewN _ _ _⟩

theorem pop_any (h : HeapIs w p bp np vc vs lim cells stack pins) :
    Calls Try.prog 27 #[.pointer (some ⟨p, 0, none⟩)] w (HeapEnd w p bp np vc vs lim cells (stack.take (stack.length - 1)) pins (.int .i64 (topOf stack 0))) := by
  have H := Lib.hid h
  clear h
  go_enter Try.func27, Try.ntmps27
  go_wp2_with (first | (go_at_call 21; refine (top_any _ _ _ _ _ _ _ _ _ _ H.out _).mono ?_; rintro e w' ⟨rfl, n, rfl⟩) | (go_at_call 17; refine (drop_any _ _ _ _ _ _ _ _ _ _ (H.out.drewN _) _).mono ?_; rintro e w' ⟨rfl, vc', vs', h1, h2, h3⟩))
  go_ret
  exact ⟨rfl, vc', vs', h1, ((Chg.refl _ _).drewN n).trans h2 (Within.refl _ _), h3⟩
end
end Go.Proofs.Ytlbiapgikkjooaa
