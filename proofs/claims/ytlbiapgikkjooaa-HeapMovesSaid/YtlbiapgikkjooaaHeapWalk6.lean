/- What the calls of a heap come to, sixth part: room; Make; Raw; Live; Bytes. -/
import Derived.Test.YtlbiapgikkjooaaHeapWalk5
namespace Go.Proofs.Ytlbiapgikkjooaa
open Go.RowKit Go.Maps Hp
set_option linter.unusedSimpArgs false
set_option linter.unusedVariables false
set_option linter.unusedSectionVars false

/-- Behind a call of room. -/
def RoomEnd (A : AH) (w : World) (p bp np : Nat) (vc vs : Value) (n : Nat) (e : Ending) (w' : World) : Prop :=
  ∃ vc' φ' cells' stack' pins', e = .returned (.int .i64 (if A.live + n ≤ A.limit then 0 else 14)) ∧ HeapIs w' p bp np vc' vs A.limit cells' stack' pins' ∧ Rep A φ' cells' stack' pins' ∧
    (A.live + n ≤ A.limit → cells'.length + n ≤ A.limit) ∧ Chg (foot p bp vc vs) w w' ∧ Within (foot p bp vc vs) (foot p bp vc' vs) w.heap.size

section
variable {A : AH} {φ : Nat → Nat} {w w' : World} {p bp np : Nat} {vc vs : Value} {cells stack : List Int} {pins : Int → Option Int}

theorem room_any (h : HeapIs w p bp np vc vs A.limit cells stack pins) (hrep : Rep A φ cells stack pins) (hlim : A.limit ≤ 4194304) (hst : stack.length < 1000000000) (hnp : np < 1000000000) (n : Nat) (hn : n ≤ 1000000000) :
    Calls Try.prog 46 #[.pointer (some ⟨p, 0, none⟩), .int .i64 n] w (RoomEnd A w p bp np vc vs n) := by
  have hl := hrep.live_le
  have hro := hrep.room
  have c0 := h.c0
  obtain ⟨co, ccap, e, hcc, hcm, _, _⟩ := h.rc.form
  rw [ints_length] at e hcc
  have c1 := h.c1
  rw [e] at c1
  clear e
  have H := Lib.hid h
  have R := Lib.hid hrep
  clear h hrep
  have CL : ∀ n, Calls Try.prog 48 #[.pointer (some ⟨p, 0, none⟩)] (w.drewN n) fun e w' => e = .returned (.tuple #[]) ∧ ∃ vc' φ' cells' stack' pins', HeapIs w' p bp np vc' vs A.limit cells' stack' pins' ∧ Rep A φ' cells' stack' pins' ∧
      cells'.length = A.live ∧ Chg (foot p bp vc vs) (w.drewN n) w' ∧ Within (foot p bp vc vs) (foot p bp vc' vs) w.heap.size := fun n => clean_any (H.out.drewN n) R.out hlim hst hnp
  by_cases h1 : cells.length + n ≤ A.limit
  · have hcond : ¬ ((n : Int) > (A.limit : Int) - (cells.length : Int)) := by omega
    go_enter Try.func46, Try.ntmps46
    go_wp2
    go_region
    go_wp2
    go_region
    go_wp2
    go_ret
    exact ⟨vc, φ, cells, stack, pins, by rw [if_pos (by omega)]; rfl, H.out.drewN 2, R.out, fun _ => h1, (Chg.refl _ _).drewN 2, Within.refl _ _⟩
  · have hcond : ((n : Int) > (A.limit : Int) - (cells.length : Int)) := by omega
    have hcond2 : ((A.limit : Int) - (cells.length : Int) < (n : Int)) = True := by simp; omega
    go_enter Try.func46, Try.ntmps46
    go_wp2
    go_region
    clear c0 c1
    have CL' := Lib.hid (CL 1)
    clear CL
    by_cases h2 : A.live + n ≤ A.limit
    · go_wp2_with
       (go_at_call 48; refine CL'.out.mono ?_; rintro e w' ⟨rfl, vc', φ', cells', stack', pins', hH, hR, hlv, hch, hwi⟩;
        obtain ⟨co', ccap', e', hcc', hcm', _, _⟩ := hH.rc.form; rw [ints_length] at e' hcc'; have c0 := hH.c0; have c1 := hH.c1; rw [e'] at c1; clear e'; have HH := Lib.hid hH; have HR := Lib.hid hR; have HL := Lib.hid hlv; have HC := Lib.hid hch; have HW := Lib.hid hwi; rw [hlv] at c1; have hcond3 : ¬ ((A.limit : Int) - (A.live : Int) < (n : Int)) := (by omega); clear hH hR hlv hch hwi)
      go_region
      go_wp2
      go_ret
      exact ⟨vc', φ', cells', stack', pins', by rw [if_pos h2]; rfl, HH.out.drewN 1, HR.out, fun _ => by rw [HL.out]; exact h2, (((Chg.refl _ _).drewN 1).trans HC.out (Within.refl _ _)).drewN 1, HW.out⟩
    · go_wp2_with
       (go_at_call 48; refine CL'.out.mono ?_; rintro e w' ⟨rfl, vc', φ', cells', stack', pins', hH, hR, hlv, hch, hwi⟩;
        obtain ⟨co', ccap', e', hcc', hcm', _, _⟩ := hH.rc.form; rw [ints_length] at e' hcc'; have c0 := hH.c0; have c1 := hH.c1; rw [e'] at c1; clear e'; have HH := Lib.hid hH; have HR := Lib.hid hR; have HL := Lib.hid hlv; have HC := Lib.hid hch; have HW := Lib.hid hwi; rw [hlv] at c1; have hcond3 : ((A.limit : Int) - (A.live : Int) < (n : Int)) := (by omega); clear hH hR hlv hch hwi)
      go_region
      go_wp2
      go_ret
      exact ⟨vc', φ', cells', stack', pins', by rw [if_neg h2]; rfl, HH.out.drewN 1, HR.out, fun h => absurd h h2, (((Chg.refl _ _).drewN 1).trans HC.out (Within.refl _ _)).drewN 1, HW.out⟩

/-- Behind a call of Make or Raw, the arguments being in range. -/
def PutEnd (A : AH) (w : World) (p bp np : Nat) (vc vs : Value) (o : Ob) (n : Nat) (e : Ending) (w' : World) : Prop :=
  ∃ vc' vs' φ' cells' stack' pins' A', e = .returned (.int .i64 (if A.live + o.size ≤ A.limit then 0 else 14)) ∧ A' = (if A.live + o.size ≤ A.limit then A.add o n else A) ∧ HeapIs w' p bp np vc' vs' A.limit cells' stack' pins' ∧ Rep A' φ' cells' stack' pins' ∧
    Chg (foot p bp vc vs) w w' ∧ Within (foot p bp vc vs) (foot p bp vc' vs') w.heap.size

def MakeLoop (w0 : World) (p bp np : Nat) (vc0 vs : Value) (lim : Nat) (cells stack news : List Int) (pins : Int → Option Int) (k : Nat) (s : Value) (w : World) : Prop :=
  ∃ (i : Nat) (vc : Value), i + k = news.length ∧ s = .int .i64 i ∧ HeapIs w p bp np vc vs lim (cells ++ news.take i) stack pins ∧ Chg (foot p bp vc0 vs) w0 w ∧ Within (foot p bp vc0 vs) (foot p bp vc vs) w0.heap.size

theorem makeLoop_start {w0 w1 : World} {vc0 : Value} {lim g m cap : Nat} {hd : Int} {news : List Int} {o : Obj} (h : HeapIs w p bp np vc vs lim cells stack pins) (hc : Chg (foot p bp vc0 vs) w0 w) (hw : Within (foot p bp vc0 vs) (foot p bp vc vs) w0.heap.size)
    (hg : (w.alloc o).grownBy w1 vc.ownBlock) (hr : Row w1 3 (.slice (some ⟨g, 0, none⟩) m cap) (ints cells ++ [.int .i64 hd])) (hl : vc.ownBlock = some g ∨ g = (w.alloc o).heap.size) :
    MakeLoop w0 p bp np vc0 vs lim (cells ++ [hd]) stack news pins news.length (.int .i64 0) (w1.setCell ⟨p, 1, none⟩ (.slice (some ⟨g, 0, none⟩) m cap)) := by
  obtain ⟨r1, r2, r3⟩ := h.cellsApp_is (cells' := cells ++ [hd]) (v' := .slice (some ⟨g, 0, none⟩) m cap) hg (by rw [ints_append]; exact hr) (hl.imp (fun e => e.symm) (fun e => by simp at e; simp [Value.ownBlock, e]))
  exact ⟨0, _, by omega, rfl, by rw [List.take_zero, List.append_nil]; exact r1, hc.trans r2 hw, hw.trans r3 hc.size⟩

theorem makeLoop_next {w0 w1 : World} {vc0 : Value} {lim g m cap i k : Nat} {x : Int} {news : List Int} {o : Obj} (h : HeapIs w p bp np vc vs lim (cells ++ news.take i) stack pins) (hc : Chg (foot p bp vc0 vs) w0 w) (hw : Within (foot p bp vc0 vs) (foot p bp vc vs) w0.heap.size)
    (hx : news[i]? = some x) (hk : i + 1 + k = news.length)
    (hg : (w.alloc o).grownBy w1 vc.ownBlock) (hr : Row w1 3 (.slice (some ⟨g, 0, none⟩) m cap) (ints (cells ++ news.take i) ++ [.int .i64 x])) (hl : vc.ownBlock = some g ∨ g = (w.alloc o).heap.size) :
    MakeLoop w0 p bp np vc0 vs lim cells stack news pins k (.int .i64 ((i : Int) + 1)) (w1.setCell ⟨p, 1, none⟩ (.slice (some ⟨g, 0, none⟩) m cap)) := by
  have e : (cells ++ news.take i) ++ [x] = cells ++ news.take (i + 1) := by
    rw [List.take_add_one, hx, List.append_assoc]; rfl
  obtain ⟨r1, r2, r3⟩ := h.cellsApp_is (cells' := (cells ++ news.take i) ++ [x]) (v' := .slice (some ⟨g, 0, none⟩) m cap) hg (by rw [ints_append]; exact hr) (hl.imp (fun e => e.symm) (fun e => by simp at e; simp [Value.ownBlock, e]))
  rw [e] at r1
  exact ⟨i + 1, _, hk, by simp, r1, hc.trans r2 hw, hw.trans r3 hc.size⟩

theorem put_end {w0 w1 : World} {vc0 vs0 : Value} {low n g m cap : Nat} {o : Ob} {ob : Obj} {body : List Int} (hroom : A.live + o.size ≤ A.limit) (hR : Rep A φ cells stack pins) (hf : ∀ r ∈ o.fields, A.Ok r) (ho : o.kind ≤ 1000 ∧ (o.raw = true → o.fields = []) ∧ (o.raw = false → o.bytes = []))
    (hle : cells.length + o.size ≤ A.limit) (hlow : low = stack.length - n) (hbody : body = enc φ o) (h : HeapIs w p bp np vc vs A.limit (cells ++ body) stack pins) (hc : Chg (foot p bp vc0 vs) w0 w) (hw : Within (foot p bp vc0 vs) (foot p bp vc vs) w0.heap.size) (hob : vs0.ownBlock = vs.ownBlock)
    (hg : (w.alloc ob).grownBy w1 vs0.ownBlock) (hr : Row w1 22 (.slice (some ⟨g, 0, none⟩) m cap) (ints (stack.take low) ++ [.int .i64 (2 * (cells.length : Int))])) (hl : vs0.ownBlock = some g ∨ g = (w.alloc ob).heap.size) :
    PutEnd A w0 p bp np vc0 vs o n (.returned (.int .i64 0)) (w1.setCell ⟨p, 2, none⟩ (.slice (some ⟨g, 0, none⟩) m cap)) := by
  rw [hob] at hg hl
  obtain ⟨r1, r2, r3⟩ := h.stackApp_is (stack' := stack.take low ++ [2 * (cells.length : Int)]) (v' := .slice (some ⟨g, 0, none⟩) m cap) hg (by rw [ints_append]; exact hr) (hl.imp (fun e => e.symm) (fun e => by simp at e; simp [Value.ownBlock, e]))
  have hR2 := hR.add (o := o) (n := n) hf ho hle
  refine ⟨vc, _, grown φ A.objs.length cells.length, _, _, _, A.add o n, by rw [if_pos hroom], by rw [if_pos hroom], r1, ?_, hc.trans r2 hw, hw.trans r3 hc.size⟩
  rw [hbody, hlow]
  exact hR2

end
end Go.Proofs.Ytlbiapgikkjooaa
