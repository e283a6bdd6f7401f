/- What the calls of a heap come to, third part: Set; moving an object; cleaning. -/
import Derived.Test.YtlbiapgikkjooaaHeapWalk2
import Derived.IntWalk
import Derived.Test.YtlbiapgikkjooaaTail
namespace Go.Proofs.Ytlbiapgikkjooaa
open Go.RowKit Go.Maps Hp
set_option linter.unusedSimpArgs false
set_option linter.unusedVariables false
set_option linter.unusedSectionVars false

section
variable {w : World} {p bp np : Nat} {vc vs : Value} {lim : Nat} {stack : List Int} {cells : List Int} {pins : Int → Option Int}

theorem set_imm (w : World) (p : Nat) (x i y : Int) (hx : x % 2 = 1) : Calls Try.prog 23 #[.pointer (some ⟨p, 0, none⟩), .int .i64 x, .int .i64 i, .int .i64 y] w fun e w' => e = .returned (.tuple #[]) ∧ ∃ n, w' = w.drewN n := by
  have H := Lib.hid hx
  clear hx
  by_cases h0 : i < 0
  · go_enter Try.func23, Try.ntmps23
    go_wp2_with (first | (go_at_call 29; refine (size_imm _ _ _ H.out).mono ?_; rintro e w' ⟨rfl, n, rfl⟩))
    go_end0
    exact ⟨rfl, 0, rfl⟩
  · go_enter Try.func23, Try.ntmps23
    go_wp2_with (first | (go_at_call 29; refine (size_imm _ _ _ H.out).mono ?_; rintro e w' ⟨rfl, n, rfl⟩))
    go_end0
    exact ⟨rfl, _, rfl⟩

theorem set_none (h : HeapIs w p bp np vc vs lim cells stack pins) (hl : cells.length ≤ 4194304) (a : Nat) (o : Ob) (hc : cells[a]? = some (head o)) (hh : HeadIs (head o) o) (hf : o.raw = true → o.fields = []) (i y : Int) (hi : i < 0 ∨ (o.fields.length : Int) ≤ i) :
    Calls Try.prog 23 #[.pointer (some ⟨p, 0, none⟩), .int .i64 (2 * (a : Int)), .int .i64 i, .int .i64 y] w fun e w' => e = .returned (.tuple #[]) ∧ ∃ n, w' = w.drewN n := by
  have S : Calls Try.prog 29 #[.pointer (some ⟨p, 0, none⟩), .int .i64 (2 * (a : Int))] w fun e w' => e = .returned (.int .i64 o.fields.length) ∧ ∃ n, w' = w.drewN n := by
    cases hr : o.raw
    · exact size_fields h hl a o hc hh hr
    · rw [hf hr]; exact size_raw h hl a o hc hh hr
  have HS := Lib.hid S
  clear S h hc hh hf
  rcases hi with h0 | h0
  · go_enter Try.func23, Try.ntmps23
    go_wp2_with (first | (go_at_call 29; refine HS.out.mono ?_; rintro e w' ⟨rfl, n, rfl⟩))
    go_end0
    exact ⟨rfl, 0, rfl⟩
  · have h1 : 0 ≤ i := by omega
    go_enter Try.func23, Try.ntmps23
    go_wp2_with (first | (go_at_call 29; refine HS.out.mono ?_; rintro e w' ⟨rfl, n, rfl⟩))
    go_end0
    exact ⟨rfl, _, rfl⟩

theorem ints_set (l : List Int) (i : Nat) (x : Int) : (ints l).set i (.int .i64 x) = ints (l.set i x) := by simp [ints, List.map_set]

/-- A store into a cell of the heap. -/
theorem HeapIs.setAt {g cap : Nat} (h : HeapIs w p bp np (.slice (some ⟨g, 0, none⟩) cells.length cap) vs lim cells stack pins) (j : Nat) (x : Int) :
    HeapIs (w.setCell ⟨g, j, none⟩ (.int .i64 x)) p bp np (.slice (some ⟨g, 0, none⟩) cells.length cap) vs lim (cells.set j x) stack pins := by
  have hc : Chg [g] w (w.setCell ⟨g, j, none⟩ (.int .i64 x)) := (Chg.refl [g] w).setCell (p := ⟨g, j, none⟩) (.inl (by simp)) _
  have hg : (Value.slice (some ⟨g, 0, none⟩) cells.length cap).ownBlock = some g := rfl
  refine ⟨(hc.block p (lt_of_block h.hdr) (by rw [List.mem_singleton]; rintro rfl; exact h.ne2 rfl)).trans h.hdr, ?_, h.rs.chg hc (fun k hk => by rw [List.mem_singleton]; rintro rfl; exact h.ne6 k rfl hk), h.pm.chg hc (by rw [List.mem_singleton]; rintro rfl; exact h.ne3 rfl), h.ne1, h.ne2, h.ne3, h.ne4, h.ne5, h.ne6⟩
  have := h.rc.stored j (.int .i64 x)
  rw [ints_set] at this
  exact this

theorem set_some (h : HeapIs w p bp np vc vs lim cells stack pins) (hl : cells.length ≤ 4194304) (a : Nat) (o : Ob) (hc : cells[a]? = some (head o)) (hh : HeadIs (head o) o) (hr : o.raw = false) (i : Nat) (hi : i < o.fields.length) (hai : a + 1 + i < cells.length) (y : Int) :
    Calls Try.prog 23 #[.pointer (some ⟨p, 0, none⟩), .int .i64 (2 * (a : Int)), .int .i64 (i : Int), .int .i64 y] w (HeapEnd w p bp np vc vs lim (cells.set (a + 1 + i) y) stack pins (.tuple #[])) := by
  have HS := Lib.hid (size_fields h hl a o hc hh hr)
  obtain ⟨g, cap, rfl, hcap, _, _, hat⟩ := h.cellsAt (by intro e; rw [e] at hai; simp at hai)
  have c1 := h.c1
  have cg := hat _ _ (List.getElem?_eq_getElem hai)
  have fg : w.frozen? ⟨g, a + 1 + i, none⟩ = false := h.rc.frozenAt _
  have H := Lib.hid h
  have e1 : ((a : Int) + 1 + (i : Int)).toNat = a + 1 + i := by omega
  have hb1 : 0 ≤ (a : Int) + 1 + (i : Int) := by omega
  have hb2 : (a : Int) + 1 + (i : Int) < (cells.length : Int) := by omega
  clear hat h hc hh hr
  generalize hcv : cells[a + 1 + i] = cv at cg
  clear hcv
  go_enter Try.func23, Try.ntmps23
  go_wp2_with (first | (go_at_call 29; refine HS.out.mono ?_; rintro e w' ⟨rfl, n, rfl⟩))
  refine region_tail 11 (by kernel_rfl) (by kernel_rfl) ?_
  simp only [List.take_succ_cons, List.take_zero, List.drop_succ_cons, List.drop_zero]
  repeat (refine wpStill_step (fun K hK => ?_); go_simp; (try go_bits); (first | (refine hK _ ?_; clear hK K) | (refine ⟨_, st (at_of _ _), hK _ ?_⟩; clear hK K)))
  refine wpStill_nil ?_
  go_wp2
  go_end0
  refine ⟨rfl, _, vs, (H.out.drewN (n + 1)).setAt (a + 1 + i) y, ((Chg.refl _ w).drewN _).setCell (p := ⟨g, a + 1 + i, none⟩) (.inl (mem_foot.2 (.inr (.inr (.inl rfl))))) _, Within.refl _ _⟩
end

/-! ### The copier -/
structure CopIs (w : World) (pc bt nt : Nat) (vf vt : Value) (to : List Int) (th : Int → Option Int) : Prop where
  hdr : w.heap[pc]? = some (.cells #[vf, vt, .map (some bt)] 90 (0, 0))
  rt : Row w 3 vt (ints to)
  tm : IMap Try.prog 3 3 w bt nt th
  ne1 : pc ≠ bt
  ne2 : vt.ownBlock ≠ some pc
  ne3 : vt.ownBlock ≠ some bt

def cfoot (pc bt : Nat) (vt : Value) : List Nat := pc :: bt :: vt.ownBlock.toList
theorem mem_cfoot {pc bt k : Nat} {vt : Value} : k ∈ cfoot pc bt vt ↔ k = pc ∨ k = bt ∨ vt.ownBlock = some k := by simp [cfoot]

section
variable {w w' : World} {pc bt nt : Nat} {vf vt : Value} {to : List Int} {th : Int → Option Int}
theorem CopIs.c0 (h : CopIs w pc bt nt vf vt to th) : w.cell? ⟨pc, 0, none⟩ = some vf := by simp [World.cell?, h.hdr]
theorem CopIs.c1 (h : CopIs w pc bt nt vf vt to th) : w.cell? ⟨pc, 1, none⟩ = some vt := by simp [World.cell?, h.hdr]
theorem CopIs.c2 (h : CopIs w pc bt nt vf vt to th) : w.cell? ⟨pc, 2, none⟩ = some (.map (some bt)) := by simp [World.cell?, h.hdr]
theorem CopIs.fr (h : CopIs w pc bt nt vf vt to th) (o : Nat) : w.frozen? ⟨pc, o, none⟩ = false := by simp [World.frozen?, h.hdr]
theorem CopIs.chg {G : List Nat} (h : CopIs w pc bt nt vf vt to th) (hc : Chg G w w') (hd : ∀ k ∈ cfoot pc bt vt, k ∉ G) : CopIs w' pc bt nt vf vt to th :=
  ⟨(hc.block pc (lt_of_block h.hdr) (hd pc (mem_cfoot.2 (.inl rfl)))).trans h.hdr, h.rt.chg hc (fun k hk => hd k (mem_cfoot.2 (.inr (.inr hk)))), h.tm.chg hc (hd bt (mem_cfoot.2 (.inr (.inl rfl)))), h.ne1, h.ne2, h.ne3⟩
theorem CopIs.drewN (h : CopIs w pc bt nt vf vt to th) (n : Nat) : CopIs (w.drewN n) pc bt nt vf vt to th := h.chg ((Chg.refl [] w).drewN n) (fun _ _ => by simp)
end

section
variable {w w1 w2 : World} {pc bt nt : Nat} {vf vt : Value} {to : List Int} {th : Int → Option Int}
theorem hdr_set3 {a b c u : Value} {t : TypeId} {o : Nat} (h : w.heap[pc]? = some (.cells #[a, b, c] t (0, 0))) : (w.setCell ⟨pc, o, none⟩ u).heap[pc]? = some (.cells (#[a, b, c].setIfInBounds o u) t (0, 0)) := by
  have hlt := lt_of_block h
  have h' : w.heap[pc] = .cells #[a, b, c] t (0, 0) := by simpa [Array.getElem?_eq_getElem hlt] using h
  show (w.heap.modify pc _)[pc]? = _
  rw [Array.getElem?_eq_getElem (by simpa using hlt), Array.getElem_modify_self, h']
  rfl
theorem CopIs.put {vt' : Value} {to' : List Int} {nt' : Nat} {th' : Int → Option Int} (h : CopIs w pc bt nt vf vt to th) (hb : w1.heap[pc]? = w.heap[pc]?) (hr : Row w1 3 vt' (ints to')) (hm : IMap Try.prog 3 3 w1 bt nt' th')
    (k1 : vt'.ownBlock ≠ some pc) (k2 : vt'.ownBlock ≠ some bt) : CopIs (w1.setCell ⟨pc, 1, none⟩ vt') pc bt nt' vf vt' to' th' := by
  have hc := chg_set w1 pc 1 vt'
  refine ⟨(hdr_set3 (hb.trans h.hdr)).trans rfl, hr.chg hc (fun k hk e => ?_), hm.chg hc (fun e => ?_), h.ne1, k1, k2⟩
  · rw [List.mem_singleton] at e; subst e; exact k1 hk
  · rw [List.mem_singleton] at e; exact h.ne1 e.symm
theorem CopIs.moved {ob : Option Nat} {to' : List Int} {nt' tg m tcap : Nat} {th' : Int → Option Int} (h : CopIs w pc bt nt vf vt to th) (hob : ob = vt.ownBlock) (hc : Chg [bt] w w1) (hm : IMap Try.prog 3 3 w1 bt nt' th')
    (hr : Row w2 3 (.slice (some ⟨tg, 0, none⟩) m tcap) (ints to')) (hg : w1.drew.grownBy w2 ob) (hl : ob = some tg ∨ tg = w1.drew.heap.size) :
    CopIs (w2.setCell ⟨pc, 1, none⟩ (.slice (some ⟨tg, 0, none⟩) m tcap)) pc bt nt' vf (.slice (some ⟨tg, 0, none⟩) m tcap) to' th' ∧ Chg (cfoot pc bt vt) w (w2.setCell ⟨pc, 1, none⟩ (.slice (some ⟨tg, 0, none⟩) m tcap)) ∧
      Within (cfoot pc bt vt) (cfoot pc bt (.slice (some ⟨tg, 0, none⟩) m tcap)) w.heap.size := by
  subst hob
  have hp0 := lt_of_block h.hdr
  have hs := hc.size
  have c1 : Chg [bt] w w1.drew := hc.drewN 1
  have c2 : Chg vt.ownBlock.toList w1.drew w2 := (Chg.refl _ _).grown hg (fun k hk => .inl (by simp [hk]))
  have htg : ∀ k, k < w.heap.size → tg = k → vt.ownBlock = some k := fun k hk e => by
    rcases hl with e2 | e2
    · rw [e2, e]
    · rw [e2] at e; have : w1.drew.heap.size = w1.heap.size := rfl; omega
  have b1 : w2.heap[pc]? = w.heap[pc]? := (c2.block pc (by have : w1.drew.heap.size = w1.heap.size := rfl; omega) (by simpa using fun e => h.ne2 e)).trans (c1.block pc hp0 (by simpa using h.ne1))
  have hm2 : IMap Try.prog 3 3 w2 bt nt' th' := (hm.chg ((Chg.refl [] _).drewN 1) (by simp)).chg c2 (by simpa using fun e => h.ne3 e)
  refine ⟨h.put b1 hr hm2 (fun e => h.ne2 (htg pc hp0 (by simpa [Value.ownBlock] using e))) (fun e => h.ne3 (htg bt h.tm.lt (by simpa [Value.ownBlock] using e))), ?_, fun k hk => ?_⟩
  · refine (Chg.setCell (F := cfoot pc bt vt) (a := w) (b := w2) ?_ (p := ⟨pc, 1, none⟩) (.inl (mem_cfoot.2 (.inl rfl))) _)
    exact (c1.mono (fun k hk => by rw [List.mem_singleton] at hk; exact mem_cfoot.2 (.inr (.inl hk)))).trans (c2.mono (F' := cfoot pc bt vt) (fun k hk => mem_cfoot.2 (.inr (.inr (by simpa using hk))))) (Within.refl _ _)
  · rcases mem_cfoot.1 hk with e | e | e
    · exact .inl (mem_cfoot.2 (.inl e))
    · exact .inl (mem_cfoot.2 (.inr (.inl e)))
    · have e' : tg = k := by simpa [Value.ownBlock] using e
      rcases Nat.lt_or_ge k w.heap.size with hk2 | hk2
      · exact .inl (mem_cfoot.2 (.inr (.inr (htg k hk2 e'))))
      · exact .inr hk2
end

/-- Behind a call of move. -/
def MoveEnd (w : World) (pc bt nt : Nat) (vf vt : Value) (to : List Int) (th : Int → Option Int) (r : Int) (d : Nat) (e : Ending) (w' : World) : Prop :=
  e = .returned (.int .i64 r) ∧ ∃ vt' nt', CopIs w' pc bt nt' vf vt' to th ∧ nt' ≤ d ∧ Chg (cfoot pc bt vt) w w' ∧ Within (cfoot pc bt vt) (cfoot pc bt vt') w.heap.size

theorem zeroI (w : World) : (zeroValue 3).run Try.prog w = .ok (.int .i64 0) w := by kernel_rfl

section
variable {w : World} {pc bt nt : Nat} {vf vt : Value} {to : List Int} {th : Int → Option Int}

theorem move_imm (h : CopIs w pc bt nt vf vt to th) (x : Int) (hx : x % 2 = 1) :
    Calls Try.prog 54 #[.pointer (some ⟨pc, 0, none⟩), .int .i64 x] w (MoveEnd w pc bt nt vf vt to th x nt) := by
  have H := Lib.hid hx
  have HC := Lib.hid h
  clear hx h
  go_enter Try.func54, Try.ntmps54
  go_wp2_with (go_at_call 11; refine (isImm_true _ H.out _).mono ?_; rintro e w' ⟨rfl, rfl⟩)
  go_ret
  exact ⟨rfl, vt, nt, HC.out, by omega, Chg.refl _ _, Within.refl _ _⟩

theorem move_old (h : CopIs w pc bt nt vf vt to th) (a b : Nat) (ha : a ≤ 4194304) (hb : b ≤ 4194304) (hth : th a = some (b : Int)) :
    Calls Try.prog 54 #[.pointer (some ⟨pc, 0, none⟩), .int .i64 (2 * (a : Int))] w (MoveEnd w pc bt nt vf vt to th (2 * (b : Int)) nt) := by
  have H1 : Hid ((2 * (a : Int)) % 2 = 0) := by show _ = _; omega
  have c2 := h.c2
  have hlk : ∀ n, (Instr.lookup 88 (.map (some bt)) (.int .i64 (a : Int)) true).run Try.prog (w.drewN n) = .ok (.tuple #[.int .i64 (b : Int), .bool true]) (w.drewN n) := fun n => by
    have := (h.drewN n).tm.look (t := 88) Try.underlying3 Try.underlying88 Try.underlying3 (zeroI _) (key := a) (WalkArith.wf_i64 (by omega))
    rw [hth] at this
    exact this
  have HC := Lib.hid h
  clear h hth
  go_enter Try.func54, Try.ntmps54
  go_wp2_with (go_at_call 11; refine (isImm_false _ H1.out _).mono ?_; rintro e w' ⟨rfl, rfl⟩)
  go_quiet ((go_at_call 49; exact qs (at_of _ _)))
  go_wp2_with (go_at_call 47; refine (object_any _ (by omega) (by omega) _).mono ?_; rintro e w' ⟨rfl, rfl⟩)
  go_ret
  exact ⟨rfl, vt, nt, HC.out.drewN _, by omega, (Chg.refl _ _).drewN _, Within.refl _ _⟩

theorem move_new (h : CopIs w pc bt nt vf vt to th) (src : List Int) (g cap a : Nat) (hvf : vf = .slice (some ⟨g, 0, none⟩) src.length cap) (hsl : src.length ≤ 4194304) (hcap : src.length ≤ cap) (hcm : cap ≤ maxLen)
    (hsrc : ∀ j x, src[j]? = some x → w.cell? ⟨g, j, none⟩ = some (.int .i64 x)) (hgf : g ∉ cfoot pc bt vt) (o : Ob) (hc : src[a]? = some (head o)) (hh : HeadIs (head o) o) (hsz : a + o.size ≤ src.length) (htl : to.length ≤ 4194304) (hnt : nt < 1000000000) (hth : th a = none) :
    Calls Try.prog 54 #[.pointer (some ⟨pc, 0, none⟩), .int .i64 (2 * (a : Int))] w
      (MoveEnd w pc bt nt vf vt (to ++ (src.drop a).take o.size) (fun j => if j = (a : Int) then some (to.length : Int) else th j) (2 * (to.length : Int)) (nt + 1)) := by
  have H1 : Hid ((2 * (a : Int)) % 2 = 0) := by show _ = _; omega
  have hal := (List.getElem?_eq_some_iff.1 hc).1
  have c2 := h.c2
  have c1 := h.c1
  have c0 := h.c0
  have hlk : ∀ n, (Instr.lookup 88 (.map (some bt)) (.int .i64 (a : Int)) true).run Try.prog (w.drewN n) = .ok (.tuple #[.int .i64 0, .bool false]) (w.drewN n) := fun n => by
    have := (h.drewN n).tm.look (t := 88) Try.underlying3 Try.underlying88 Try.underlying3 (zeroI _) (key := a) (WalkArith.wf_i64 (by omega))
    rw [hth] at this
    exact this
  obtain ⟨ao, tcap, rfl, htc, htm, _, _⟩ := h.rt.form
  rw [ints_length] at c1 htc
  have HC := Lib.hid h
  go_enter Try.func54, Try.ntmps54
  go_wp2_with (go_at_call 11; refine (isImm_false _ H1.out _).mono ?_; rintro e w' ⟨rfl, rfl⟩)
  go_quiet ((go_at_call 49; exact qs (at_of _ _)))
  go_wp2
  refine region_tail 7 (by kernel_rfl) (by kernel_rfl) ?_
  simp only [List.take_succ_cons, List.take_zero, List.drop_succ_cons, List.drop_zero]
  repeat (refine wpStill_step (fun K hK => ?_); go_simp; (try go_bits); (first | (refine hK _ ?_; clear hK K) | (refine ⟨_, st (at_of _ _), hK _ ?_⟩; clear hK K)))
  refine wpStill_nil ?_
  go_wp2_with (at_mapUpdate; (refine wpList_update_imap rfl _ _ _ 88 rfl Try.underlying3 Try.underlying88 Try.underlying3 ((HC.out.drewN (nq + 1)).tm) (by unfold maxLen; omega) rfl (a : Int) (to.length : Int) rfl rfl (WalkArith.wf_i64 (by omega)) (WalkArith.wf_i64 (by omega)) ?_; intro w1 im1 gr1))
  have gr := gr1
  have ch1 : Chg [bt] w w1 := ((Chg.refl _ w).drewN (nq + 1)).grown gr1 (fun k hk => .inl (by cases hk; simp))
  have hpb : pc ∉ [bt] := by simp [h.ne1]
  have hp0 := lt_of_block h.hdr
  have d0 := (ch1.cell (p := ⟨pc, 0, none⟩) hp0 hpb).trans c0
  have d1 := (ch1.cell (p := ⟨pc, 1, none⟩) hp0 hpb).trans c1
  have d2 := (ch1.cell (p := ⟨pc, 2, none⟩) hp0 hpb).trans c2
  have f1 := (ch1.frozen (p := ⟨pc, 1, none⟩) hp0 hpb).trans (h.fr 1)
  subst hvf
  have hb1 : 0 ≤ (a : Int) := by omega
  have hb2 : (a : Int) < (src.length : Int) := by omega
  have hb3 : (a : Int) + 1 + ((o.size - 1 : Nat) : Int) ≤ (cap : Int) := by omega
  have hb4 : (a : Int) ≤ (a : Int) + 1 + ((o.size - 1 : Nat) : Int) := by omega
  have sa : w1.cell? ⟨g, a, none⟩ = some (.int .i64 (head o)) := by
    have := hsrc _ _ hc
    exact (ch1.cell (p := ⟨g, a, none⟩) (World.block_lt_of_cell? w _ this) (by intro e; exact hgf (mem_cfoot.2 (.inr (.inl (List.mem_singleton.1 e)))))).trans this
  have HH := Lib.hid hh
  have hp1 := ch1.size
  have sz1 : 1 ≤ o.size := by unfold Ob.size; omega
  obtain ⟨nn, hnn⟩ : ∃ nn, o.size = nn + 1 := ⟨o.size - 1, by omega⟩
  have hb5 : 0 ≤ (a : Int) + 1 + (nn : Int) := by omega
  have hb3' : (a : Int) + 1 + (nn : Int) ≤ (cap : Int) := by omega
  have hb4' : (a : Int) ≤ (a : Int) + 1 + (nn : Int) := by omega
  have hcap1 : ¬ cap = a := by omega
  have e3 : ((a : Int) + 1 + (nn : Int)).toNat = a + 1 + nn := by omega
  have e4 : a + 1 + nn - a = nn + 1 := by omega
  have ND : ∀ w0 : World, Calls Try.prog 50 #[.int .i64 (head o)] w0 fun e w' => e = .returned (.int .i64 (nn : Int)) ∧ w0 = w' := fun w0 => by
    have := need_any _ _ HH.out w0
    rw [show o.size - 1 = nn from by omega] at this
    exact this
  have e1 : IntKind.i64.wrap ((a : Int) + 1) = (a : Int) + 1 := IntWalk.i64_in _ (by omega)
  have e2 : IntKind.i64.wrap ((a : Int) + 1 + (nn : Int)) = (a : Int) + 1 + (nn : Int) := IntWalk.i64_in _ (by omega)
  clear hb3 hb4
  have tr0 : Row w 3 (.slice ao to.length tcap) (ints to) := by have := h.rt; rw [ints_length] at this; exact this
  have tr1 : Row w1 3 (.slice ao to.length tcap) (ints to) := tr0.chg ch1 (by
    intro k hk; rw [List.mem_singleton]; rintro rfl
    exact h.ne3 ((ownBlock_slice ao _ _ tcap).trans hk))
  have TR := Lib.hid tr1
  have hgb : g ≠ bt := by rintro rfl; exact hgf (mem_cfoot.2 (.inr (.inl rfl)))
  have news : ∀ j u, (ints ((src.drop a).take (nn + 1)))[j]? = some u → w1.cell? ((⟨g, a, none⟩ : Addr).add j) = some u := by
    intro j u hu
    have hadd : (⟨g, a, none⟩ : Addr).add j = ⟨g, a + j, none⟩ := by unfold Addr.add; split <;> simp_all
    rw [hadd]
    unfold ints at hu
    rw [List.getElem?_map, Option.map_eq_some_iff] at hu
    obtain ⟨x, hx, rfl⟩ := hu
    rw [List.getElem?_take] at hx
    split at hx
    · rw [List.getElem?_drop] at hx
      have := hsrc _ _ hx
      exact (ch1.cell (p := ⟨g, a + j, none⟩) (World.block_lt_of_cell? w _ this) (by rw [List.mem_singleton]; exact hgb)).trans this
    · cases hx
  have NW := Lib.hid news
  have hnl : (ints ((src.drop a).take (nn + 1))).length = nn + 1 := by rw [ints_length, List.length_take, List.length_drop]; omega
  have NL := Lib.hid hnl
  have OB := ownBlock_slice ao to.length (ints to).length tcap
  have q1 : some pc ≠ (Value.slice ao to.length tcap).ownBlock := by rw [OB]; exact fun e => h.ne2 e.symm
  have q2 : some g ≠ (Value.slice ao to.length tcap).ownBlock := by rw [OB]; exact fun e => hgf (mem_cfoot.2 (.inr (.inr e.symm)))
  have Q1 := Lib.hid q1
  have Q2 := Lib.hid q2
  have L1 : Hid (pc < w1.heap.size) := Lib.hid (Nat.lt_of_lt_of_le hp0 hp1)
  have L2 : Hid (g < w1.heap.size) := Lib.hid (World.block_lt_of_cell? w1 _ sa)
  have FR : Hid (w1.frozen? ⟨pc, 1, none⟩ = false) := f1
  clear tr0 tr1 news hnl q1 q2 OB
  refine region_tail1 25 (by kernel_rfl) _ _ rfl rfl rfl (by kernel_rfl) (fun _ _ _ h => h) ?_
  simp only [List.take_succ_cons, List.take_zero, List.drop_succ_cons, List.drop_zero]
  repeat (refine wpStill_step (fun K hK => ?_); go_simp; (try go_bits); (first | (refine hK _ ?_; clear hK K) | (refine ⟨_, st (at_of _ _), hK _ ?_⟩; clear hK K) | (refine ⟨_, st (ND _), hK _ ?_⟩; clear hK K)))
  refine wpStill_nil ?_
  go_wp2_with (first | (go_at_call 47; refine (object_any _ (by omega) (by omega) _).mono ?_; rintro e w' ⟨rfl, rfl⟩) | (at_builtin; (refine wpList_app _ rfl _ _ 44 rfl 3 (.int .i64 0) 8 Try.underlying44 info3 rfl (.slice ao to.length tcap) (ints to) rfl (TR.out.chg ((Chg.refl [] _).drewN 1) (fun _ _ => by simp)) ⟨g, a, none⟩ (nn + 1) (cap - a) (ints ((src.drop a).take (nn + 1))) rfl (by omega) NL.out NW.out (ints_oneCell .i64 _) (by rw [ints_length]; omega) (by omega) ?_; intro tg tcap2 w2 hr2 hg2 hl2; have k1 := (hg2.cell_far ⟨pc, 1, none⟩ L1.out Q1.out).trans d1; have k3 := (hg2.frozen_far ⟨pc, 1, none⟩ L1.out Q1.out).trans FR.out)))
  go_ret
  obtain ⟨r1, r2, r3⟩ := HC.out.moved (to' := to ++ (src.drop a).take o.size) (ownBlock_slice ao to.length (ints to).length tcap) ch1 im1 (by rw [ints_append, hnn]; exact hr2) hg2 hl2
  exact ⟨rfl, _, _, r1, Nat.le_refl _, r2, r3⟩
end
end Go.Proofs.Ytlbiapgikkjooaa
