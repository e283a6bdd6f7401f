/- What the calls of a heap come to, ninth part: Make without room, or with what is no number of it; Live. -/
import Derived.Test.YtlbiapgikkjooaaHeapWalk8
namespace Go.Proofs.Ytlbiapgikkjooaa
open Go.RowKit Go.Maps Hp
set_option linter.unusedSimpArgs false
set_option linter.unusedVariables false
set_option linter.unusedSectionVars false

section
variable {A : AH} {φ : Nat → Nat} {w w' : World} {p bp np : Nat} {vc vs : Value} {cells stack : List Int} {pins : Int → Option Int}

set_option maxRecDepth 100000 in
theorem make_full (h : HeapIs w p bp np vc vs A.limit cells stack pins) (hrep : Rep A φ cells stack pins) (hlim : A.limit ≤ 4194304) (hst : stack.length < 1000000000) (hnp : np < 1000000000) (kind n : Nat) (hk : kind ≤ 1000) (hn : n ≤ A.stack.length) (hroom : ¬ A.live + (1 + n) ≤ A.limit) (o : Ob) (ho : o.size = 1 + n) :
    Calls Try.prog 16 #[.pointer (some ⟨p, 0, none⟩), .int .i64 kind, .int .i64 n] w (PutEnd A w p bp np vc vs o n) := by
  have hsl : stack.length = A.stack.length := by rw [hrep.stack, List.length_map]
  have RM := room_any h hrep hlim hst hnp (1 + n) (by omega)
  obtain ⟨ao, scap, rfl, hsc, hsm, hnil, hsome⟩ := h.rs.form
  rw [ints_length, hsl] at hsc
  rw [ints_length, hsl] at h RM ⊢
  have c2 := h.c2
  have hb0 : (n : Int) ≤ (A.stack.length : Int) := by omega
  clear hnil hsome
  have RM' : Calls Try.prog 46 #[.pointer (some ⟨p, 0, none⟩), .int .i64 (1 + (n : Int))] w (RoomEnd A w p bp np vc (.slice ao A.stack.length scap) (1 + n)) := by
    have e1 : (1 : Int) + (n : Int) = ((1 + n : Nat) : Int) := by omega
    rw [e1]; exact RM
  have hn0 : 0 ≤ (n : Int) := by omega
  have hn1 : (n : Int) ≤ 1000000000 := by omega
  have hk0 : 0 ≤ (kind : Int) := by omega
  have hk1 : (kind : Int) ≤ 1000 := by omega
  have HRM := Lib.hid hroom
  have HO := Lib.hid ho
  clear hroom hn hst hk RM h hrep hsl ho
  obtain ⟨K, hK⟩ : ∃ K : Int, K = (kind : Int) := ⟨_, rfl⟩
  obtain ⟨N, hN⟩ : ∃ N : Int, N = (n : Int) := ⟨_, rfl⟩
  rw [← hK] at hk0 hk1 ⊢
  rw [← hN] at hn0 hn1 hb0 RM' ⊢
  have RM2 := Lib.hid RM'
  clear RM' hK hN
  go_enter Try.func16, Try.ntmps16
  go_wp2_with
    ((go_at_call 46; refine RM2.out.mono ?_; rintro e w' ⟨vc', φ', cells', stack', pins', rfl, hH, hR, hle, hch, hwi⟩; rw [if_neg HRM.out];
            have HH := Lib.hid hH; have HR := Lib.hid hR; have HC := Lib.hid hch; have HW := Lib.hid hwi; clear hH hR hle hch hwi))
  go_ret
  exact ⟨vc', _, φ', cells', stack', pins', A, by rw [HO.out, if_neg HRM.out]; rfl, by rw [HO.out, if_neg HRM.out], HH.out, HR.out, HC.out, HW.out⟩

set_option maxRecDepth 100000 in
theorem make_arg (h : HeapIs w p bp np vc vs A.limit cells stack pins) (hst : stack.length < 1000000000) (kind n : Int) (hbad : kind < 0 ∨ 1000 < kind ∨ n < 0 ∨ (stack.length : Int) < n) :
    Calls Try.prog 16 #[.pointer (some ⟨p, 0, none⟩), .int .i64 kind, .int .i64 n] w fun e w' => e = .returned (.int .i64 1) ∧ w = w' := by
  obtain ⟨ao, scap, rfl, hsc, hsm, hnil, hsome⟩ := h.rs.form
  rw [ints_length] at hsc
  rw [ints_length] at h
  have c2 := h.c2
  clear h hnil hsome hst
  rcases hbad with hb | hb | hb | hb
  all_goals
    go_enter Try.func16, Try.ntmps16
    go_wp2
    all_goals first | (go_ret; exact ⟨rfl, rfl⟩) | (exfalso; omega)

/-- Behind a call of Live. -/
def LiveEnd (A : AH) (w : World) (p bp np : Nat) (vc vs : Value) (e : Ending) (w' : World) : Prop :=
  ∃ vc' φ' cells' stack' pins', e = .returned (.int .i64 A.live) ∧ HeapIs w' p bp np vc' vs A.limit cells' stack' pins' ∧ Rep A φ' cells' stack' pins' ∧ Chg (foot p bp vc vs) w w' ∧ Within (foot p bp vc vs) (foot p bp vc' vs) w.heap.size

theorem live_any (h : HeapIs w p bp np vc vs A.limit cells stack pins) (hrep : Rep A φ cells stack pins) (hlim : A.limit ≤ 4194304) (hst : stack.length < 1000000000) (hnp : np < 1000000000) :
    Calls Try.prog 18 #[.pointer (some ⟨p, 0, none⟩)] w (LiveEnd A w p bp np vc vs) := by
  have CL := Lib.hid (clean_any h hrep hlim hst hnp)
  clear h hrep
  go_enter Try.func18, Try.ntmps18
  go_wp2_with
    ((go_at_call 48; refine CL.out.mono ?_; rintro e w' ⟨rfl, vc', φ', cells', stack', pins', hH, hR, hlv, hch, hwi⟩;
      obtain ⟨co', ccap', e', hcc', hcm', _, _⟩ := hH.rc.form; rw [ints_length] at e' hcc'; have c1 := hH.c1; rw [e'] at c1; clear e'; have HH := Lib.hid hH; have HR := Lib.hid hR; have HC := Lib.hid hch; have HW := Lib.hid hwi; rw [hlv] at c1; clear hH hR hlv hch hwi))
  go_ret
  exact ⟨vc', φ', cells', stack', pins', rfl, HH.out, HR.out, HC.out, HW.out⟩
end
end Go.Proofs.Ytlbiapgikkjooaa
