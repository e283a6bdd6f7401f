/- What 'heaps' of the statements comes to. -/
import Derived.Test.YtlbiapgikkjooaaHeapAt
import Derived.Test.YtlbiapgikkjooaaHeapLive
namespace Go.Proofs.Ytlbiapgikkjooaa
open Go.RowKit Go.Maps Hp
set_option linter.unusedSimpArgs false
set_option linter.unusedVariables false
set_option linter.unusedSectionVars false

section
variable {w w' : World} {p m : Nat} {F : List Nat} {A : AH} {φ : Nat → Nat}

theorem at_push' (h : HeapAt w p F A φ m) (hst : A.stack.length < 1000000000) {r : Ref} (hr : A.Ok r) {x : Int} (hx : x = word φ r) :
    Calls Try.prog 15 #[.pointer (some ⟨p, 0, none⟩), .int .i64 x] w (Kept w p F (A.push r) φ m (.tuple #[])) := by
  subst hx; exact at_push h hst hr
theorem at_make' (h : HeapAt w p F A φ m) (hst : A.stack.length < 1000000000) (hm : m < 1000000000) {K N : Int} {v : Int} (kind n : Nat) (hK : K = kind) (hN : N = n) (hk : kind ≤ 1000) (hn : n ≤ A.stack.length) {B : AH} (hB : B = if A.live + (1 + n) ≤ A.limit then A.make kind n else A) (hv : v = if A.live + (1 + n) ≤ A.limit then 0 else 14) :
    Calls Try.prog 16 #[.pointer (some ⟨p, 0, none⟩), .int .i64 K, .int .i64 N] w (Turned w p F B m (.int .i64 v)) := by
  subst hK hN hB hv; exact at_make h hst hm kind n hk hn
theorem at_live' (h : HeapAt w p F A φ m) (hst : A.stack.length < 1000000000) (hm : m < 1000000000) {v : Int} (hv : v = (A.live : Int)) :
    Calls Try.prog 18 #[.pointer (some ⟨p, 0, none⟩)] w (Turned w p F A m (.int .i64 v)) := by
  subst hv; exact at_live h hst hm

/-- Behind a call of New. -/
def NewAt (w : World) (n : Nat) (e : Ending) (w' : World) : Prop :=
  ∃ p F, e = .returned (.tuple #[.pointer (some ⟨p, 0, none⟩), .int .i64 0]) ∧ HeapAt w' p F (AH.empty n) (fun _ => 0) 0 ∧ Chg [] w w' ∧ ∀ k ∈ F, w.heap.size ≤ k
theorem at_new (w : World) (n : Nat) (hn : n ≤ 4194304) {x : Int} (hx : x = n) : Calls Try.prog 14 #[.int .i64 x] w (NewAt w n) := by
  subst hx
  refine (new_any n (by omega) (by omega) w).mono ?_
  rintro e w' ⟨p, bp, he, h1, h2, h3, h4⟩
  refine ⟨p, _, he, ⟨bp, 0, _, _, [], [], fun _ => none, h1, rep_empty n _, rfl, Nat.le_refl _, hn⟩, h2, fun k hk => ?_⟩
  rcases mem_foot.1 hk with e | e | e | e
  · omega
  · omega
  · simp [Value.ownBlock] at e
  · simp [Value.ownBlock] at e
end

/-! ### The heaps of 'heaps' -/
def A1 : AH := (AH.empty 3).push (imm 1)
def A2 : AH := A1.make 5 1
def A4 : AH := A2.drop 1
def A5 : AH := A4.push (imm 1)
def A6 : AH := A5.make 5 1

theorem a1_live (h : A1.Wf) : A1.live = 0 := live_none h fun r hr => by
  rcases hr with hr | ⟨k, hk⟩
  · simp [A1, AH.push, AH.empty] at hr; rw [hr]; rfl
  · simp [A1, AH.push, AH.empty] at hk
theorem a5_live (h : A5.Wf) : A5.live = 0 := live_none h fun r hr => by
  rcases hr with hr | ⟨k, hk⟩
  · simp [A5, A4, A2, A1, AH.push, AH.empty, AH.drop, AH.make, AH.add] at hr; rw [hr]; rfl
  · simp [A5, A4, A2, A1, AH.push, AH.empty, AH.drop, AH.make, AH.add] at hk
theorem a2_live (h : A2.Wf) : A2.live = 2 := by
  have hs : A2.stack = [⟨true, 0⟩] := rfl
  have ho : A2.objs = [⟨5, false, [imm 1], []⟩] := rfl
  have hp : ∀ k, A2.pins k = none := fun k => rfl
  refine (live_of h [0] (by simp) (fun i hi => ?_) (fun r j hr hn => ?_) (fun i r j hi he hn => ?_)).trans ?_
  · rw [List.mem_singleton] at hi; subst hi
    exact .root (.inl (by rw [hs]; exact List.mem_singleton.2 rfl)) ⟨rfl, rfl⟩
  · rcases hr with hr | ⟨k, hk⟩
    · rw [hs, List.mem_singleton] at hr; subst hr
      have := hn.2
      simp only at this
      rw [List.mem_singleton]; omega
    · rw [hp] at hk; cases hk
  · obtain ⟨o, h1, h2, h3⟩ := he
    rw [List.mem_singleton] at hi; subst hi
    rw [ho] at h1; simp at h1; subst h1
    simp at h3; subst h3; have := hn.1; cases this
  · rw [total_one]; simp [sizeAt, ho, Ob.size]
theorem a6_live (h : A6.Wf) : A6.live = 2 := by
  have hs : A6.stack = [⟨true, 1⟩] := rfl
  have ho : A6.objs = [⟨5, false, [imm 1], []⟩, ⟨5, false, [imm 1], []⟩] := rfl
  have hp : ∀ k, A6.pins k = none := fun k => rfl
  refine (live_of h [1] (by simp) (fun i hi => ?_) (fun r j hr hn => ?_) (fun i r j hi he hn => ?_)).trans ?_
  · rw [List.mem_singleton] at hi; subst hi
    exact .root (.inl (by rw [hs]; exact List.mem_singleton.2 rfl)) ⟨rfl, rfl⟩
  · rcases hr with hr | ⟨k, hk⟩
    · rw [hs, List.mem_singleton] at hr; subst hr
      have := hn.2
      simp only at this
      rw [List.mem_singleton]; omega
    · rw [hp] at hk; cases hk
  · obtain ⟨o, h1, h2, h3⟩ := he
    rw [List.mem_singleton] at hi; subst hi
    rw [ho] at h1; simp at h1; subst h1
    simp at h3; subst h3; have := hn.1; cases this
  · rw [total_one]; simp [sizeAt, ho, Ob.size]

theorem wr1 : wr 1 = 1 := by decide
theorem ok_imm1 (A : AH) : A.Ok (imm 1) := ok_imm (by decide) (by decide)

/-- A step of a heap that is all in new blocks. -/
theorem new_step {N : Nat} {w0 w w' : World} {F F' : List Nat} (hF : ∀ k ∈ F, N ≤ k) (hb : Below N w0 w) (hN : N ≤ w.heap.size) (hc : Chg F w w') (hw : Within F F' w.heap.size) : (∀ k ∈ F', N ≤ k) ∧ Below N w0 w' ∧ N ≤ w'.heap.size :=
  ⟨fun k hk => by rcases hw k hk with e | e; exact hF k e; omega, hb.trans (hc.below hN hF), Nat.le_trans hN hc.size⟩

set_option maxRecDepth 100000 in
theorem heaps_any (w : World) : Calls Try.prog 10 #[] w fun e w' => e = .returned (.bool true) ∧ Below w.heap.size w w' := by
  have hwr := wr1
  go_enter Try.func10, Try.ntmps10
  go_wp2_with
    (first
     | ((go_at_call 9; refine (imm_any _ _).mono ?_; rintro e w' ⟨rfl, rfl⟩))
     | ((go_at_call 14; refine (at_new _ 3 (by omega) rfl).mono ?_; rintro e w1 ⟨p, F0, rfl, H0, C0, N0⟩;
          have B0 : Hid (Below w.heap.size w w1) := C0.below (Nat.le_refl _) (by simp); have S0 : Hid (w.heap.size ≤ w1.heap.size) := C0.size; have H0' := Lib.hid H0; have N0' := Lib.hid N0; clear H0 C0 N0))
     | ((go_at_call 15; refine (at_push' (r := imm 1) H0'.out (by decide) (ok_imm1 _) rfl).mono ?_; rintro e w2 ⟨rfl, F1, H1, C1, W1⟩;
          have T1 := Lib.hid (new_step N0'.out B0.out S0.out C1 W1); have H1' : Hid (HeapAt w2 p F1 A1 (fun _ => 0) 0) := H1; clear H1 C1 W1 H0' N0' B0 S0))
     | ((go_at_call 16; refine (at_make' (B := A2) (v := 0) H1'.out (by decide) (by omega) 5 1 rfl rfl (by omega) (by decide) (by rw [a1_live H1'.out.wf]; rfl) (by rw [a1_live H1'.out.wf]; rfl)).mono ?_; rintro e w3 ⟨rfl, φ2, F2, H2, C2, W2⟩;
          have T2 := Lib.hid (new_step T1.out.1 T1.out.2.1 T1.out.2.2 C2 W2); have H2' := Lib.hid H2; clear H2 C2 W2 H1' T1))
     | ((go_at_call 16; refine (at_make' (B := A2) (v := 14) H2'.out (by decide) (by omega) 6 1 rfl rfl (by omega) (by decide) (by rw [a2_live H2'.out.wf]; rfl) (by rw [a2_live H2'.out.wf]; rfl)).mono ?_; rintro e w4 ⟨rfl, φ3, F3, H3, C3, W3⟩;
          have T3 := Lib.hid (new_step T2.out.1 T2.out.2.1 T2.out.2.2 C3 W3); have H3' := Lib.hid H3; clear H3 C3 W3 H2' T2))
     | ((go_at_call 17; refine (at_drop H3'.out 1).mono ?_; rintro e w5 ⟨rfl, F4, H4, C4, W4⟩;
          have T4 := Lib.hid (new_step T3.out.1 T3.out.2.1 T3.out.2.2 C4 W4); have H4' : Hid (HeapAt w5 p F4 A4 φ3 0) := H4; clear H4 C4 W4 H3' T3))
     | ((go_at_call 15; refine (at_push' (r := imm 1) H4'.out (by decide) (ok_imm1 _) rfl).mono ?_; rintro e w6 ⟨rfl, F5, H5, C5, W5⟩;
          have T5 := Lib.hid (new_step T4.out.1 T4.out.2.1 T4.out.2.2 C5 W5); have H5' : Hid (HeapAt w6 p F5 A5 φ3 0) := H5; clear H5 C5 W5 H4' T4))
     | ((go_at_call 16; refine (at_make' (B := A6) (v := 0) H5'.out (by decide) (by omega) 5 1 rfl rfl (by omega) (by decide) (by rw [a5_live H5'.out.wf]; rfl) (by rw [a5_live H5'.out.wf]; rfl)).mono ?_; rintro e w7 ⟨rfl, φ6, F6, H6, C6, W6⟩;
          have T6 := Lib.hid (new_step T5.out.1 T5.out.2.1 T5.out.2.2 C6 W6); have H6' := Lib.hid H6; clear H6 C6 W6 H5' T5))
     | ((go_at_call 18; refine (at_live' (v := 2) H6'.out (by decide) (by omega) (by rw [a6_live H6'.out.wf]; rfl)).mono ?_; rintro e w8 ⟨rfl, φ7, F7, H7, C7, W7⟩;
          have T7 := Lib.hid (new_step T6.out.1 T6.out.2.1 T6.out.2.2 C7 W7); clear H7 C7 W7 H6' T6)))
  go_ret
  exact ⟨rfl, T7.out.2.1⟩
end Go.Proofs.Ytlbiapgikkjooaa
