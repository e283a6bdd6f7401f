/- HeapRings: the walk. -/
import Derived.Test.YtlbiapgikkjooaaHeaps
import Derived.Test.YtlbiapgikkjooaaRing
import Derived.Test.YtlbiapgikkjooaaEnd
namespace Go.Proofs.Ytlbiapgikkjooaa
open Go.RowKit Go.Maps Hp

def AtBare (N : Nat) (w0 : World) (p lim m : Nat) (w : World) : Prop := ∃ A φ, Bare A lim ∧ Mine N w0 p A φ m w
def AtOne (N : Nat) (w0 : World) (p lim m : Nat) (r : Ref) (w : World) : Prop := ∃ A φ, Bare A lim ∧ Mine N w0 p (A.push r) φ m w
def AtChain (N : Nat) (w0 : World) (p lim b k : Nat) (x : Ref) (pn : Bool) (φ : Nat → Nat) (m : Nat) (w : World) : Prop :=
  ∃ A, Chain A lim b k x pn ∧ (x.obj = false ∨ x = obj (b + k - 1)) ∧ Mine N w0 p A φ m w

theorem imm_nat (n : Nat) (h : n < 1000000000) (w : World) : Calls Try.prog 9 #[.int .i64 (n : Int)] w fun e w' => e = .returned (.int .i64 (2 * (n : Int) + 1)) ∧ w = w' := by
  have := imm_any n w
  rwa [wr_of_in _ (by omega) (by omega)] at this

section
variable {N m : Nat} {w0 w : World} {p lim b k : Nat} {x : Ref} {pn : Bool} {φ : Nat → Nat}

theorem AtChain.below (h : AtChain N w0 p lim b k x pn φ m w) : Below N w0 w := by obtain ⟨A, _, _, h⟩ := h; exact h.below
theorem AtBare.below (h : AtBare N w0 p lim m w) : Below N w0 w := by obtain ⟨A, _, _, h⟩ := h; exact h.below

def OneEnd (N : Nat) (w0 : World) (p lim m : Nat) (r : Ref) (e : Ending) (w : World) : Prop := e = .returned (.tuple #[]) ∧ AtOne N w0 p lim m r w
theorem bare_push (h : AtBare N w0 p lim m w) (i : Nat) (hi : i < 1000000000) : Calls Try.prog 15 #[.pointer (some ⟨p, 0, none⟩), .int .i64 (2 * (i : Int) + 1)] w (OneEnd N w0 p lim m (imm i)) := by
  obtain ⟨A, φ, hB, hM⟩ := h
  refine (mine_push hM (by rw [hB.st]; decide) (r := imm i) (ok_imm (by omega) (by omega)) rfl rfl).mono ?_
  rintro e w' ⟨he, hM'⟩
  exact ⟨he, A, φ, hB, hM'⟩

def FirstEnd (N : Nat) (w0 : World) (p lim m : Nat) (r : Ref) (e : Ending) (w : World) : Prop := e = .returned (.int .i64 0) ∧ ∃ b φ, AtChain N w0 p lim b 1 r false φ m w
theorem one_make (h : AtOne N w0 p lim m x w) (hx : x.obj = false) (hm : m < 1000000000) (hlim : 2 ≤ lim) : Calls Try.prog 16 #[.pointer (some ⟨p, 0, none⟩), .int .i64 1, .int .i64 1] w (FirstEnd N w0 p lim m x) := by
  obtain ⟨A, φ, hB, hM⟩ := h
  have hl : (A.push x).stack.length = 1 := by simp [AH.push, hB.st]
  have hr : (A.push x).live + (1 + 1) ≤ (A.push x).limit := by rw [hB.push_live hx hM.wf, show (A.push x).limit = lim from hB.lim]; omega
  refine (mine_makes hM (by rw [hl]; decide) hm 1 1 rfl rfl (by decide) (by rw [hl]; decide) hr rfl).mono ?_
  rintro e w' ⟨he, φ', hM'⟩
  exact ⟨he, _, φ', _, hB.first x, .inl hx, hM'⟩

def ChainEnd (N : Nat) (w0 : World) (p lim b k : Nat) (x : Ref) (pn : Bool) (φ : Nat → Nat) (m : Nat) (v : Value) (e : Ending) (w : World) : Prop := e = .returned v ∧ AtChain N w0 p lim b k x pn φ m w
def ChainNew (N : Nat) (w0 : World) (p lim b k : Nat) (x : Ref) (pn : Bool) (m : Nat) (v : Value) (e : Ending) (w : World) : Prop := e = .returned v ∧ ∃ φ, AtChain N w0 p lim b k x pn φ m w

theorem chain_top (h : AtChain N w0 p lim b k x pn φ m w) : Calls Try.prog 21 #[.pointer (some ⟨p, 0, none⟩), .int .i64 0] w (ChainEnd N w0 p lim b k x pn φ m (.int .i64 (word φ (obj (b + k - 1))))) := by
  obtain ⟨A, hC, hx, hM⟩ := h
  refine (hM.quiet (mine_top hM 0 (by rw [hC.top]))).mono ?_
  rintro e w' ⟨he, hM'⟩
  exact ⟨he, A, hC, hx, hM'⟩
theorem chain_pin (h : AtChain N w0 p lim b 1 x false φ m w) (hm : m < 1000000000) (hlim : lim ≤ 4194304) : Calls Try.prog 20 #[.pointer (some ⟨p, 0, none⟩), .int .i64 7, .int .i64 (word φ (obj (b + 1 - 1)))] w (ChainEnd N w0 p lim b 1 x true φ (m + 1) (.tuple #[])) := by
  obtain ⟨A, hC, hx, hM⟩ := h
  refine (mine_pin hM (k := 7) (by decide) hm (r := obj b) (hC.ok (j := 0) (by omega)) (by rw [hC.lim]; exact hlim) rfl rfl).mono ?_
  rintro e w' ⟨he, hM'⟩
  exact ⟨he, _, hC.pin, hx, hM'⟩
theorem chain_make (h : AtChain N w0 p lim b k x pn φ m w) (hx : x.obj = false) (hm : m < 1000000000) (hlim : 2 * k + 2 ≤ lim) : Calls Try.prog 16 #[.pointer (some ⟨p, 0, none⟩), .int .i64 1, .int .i64 1] w (ChainNew N w0 p lim b (k + 1) x pn m (.int .i64 0)) := by
  obtain ⟨A, hC, hx', hM⟩ := h
  have hl : A.stack.length = 1 := by simp [hC.st]
  have hr : A.live + (1 + 1) ≤ A.limit := by rw [hC.live hx' hM.wf, hC.lim]; omega
  refine (mine_makes hM (by rw [hl]; decide) hm 1 1 rfl rfl (by decide) (by rw [hl]; decide) hr rfl).mono ?_
  rintro e w' ⟨he, φ', hM'⟩
  exact ⟨he, φ', _, hC.make, .inl hx, hM'⟩
theorem chain_pinned (h : AtChain N w0 p lim b k x true φ m w) : Calls Try.prog 22 #[.pointer (some ⟨p, 0, none⟩), .int .i64 7] w fun e w' => e = .returned (.tuple #[.int .i64 (word φ (obj b)), .bool true]) ∧ w = w' := by
  obtain ⟨A, hC, hx', hM⟩ := h
  refine mine_pinned hM (k := 7) (by decide) ?_ ?_
  · rw [hC.pn, if_pos ⟨rfl, rfl⟩]; rfl
  · rw [hC.pn, if_pos ⟨rfl, rfl⟩]; rfl
theorem chain_set (h : AtChain N w0 p lim b k x pn φ m w) : Calls Try.prog 23 #[.pointer (some ⟨p, 0, none⟩), .int .i64 (word φ (obj b)), .int .i64 0, .int .i64 (word φ (obj (b + k - 1)))] w (ChainEnd N w0 p lim b k (obj (b + k - 1)) pn φ m (.tuple #[])) := by
  obtain ⟨A, hC, hx', hM⟩ := h
  have hp := hC.pos
  have h2 := hC.ok (j := k - 1) (by omega)
  rw [show b + (k - 1) = b + k - 1 by omega] at h2
  refine (mine_set hM (r := obj b) (y := obj (b + k - 1)) (hC.ok (j := 0) hC.pos) rfl 0 h2 rfl rfl).mono ?_
  rintro e w' ⟨he, hM'⟩
  exact ⟨he, _, hC.set, .inr rfl, hM'⟩
theorem chain_unpin (h : AtChain N w0 p lim b k x pn φ m w) : Calls Try.prog 24 #[.pointer (some ⟨p, 0, none⟩), .int .i64 7] w (ChainEnd N w0 p lim b k x false φ m (.tuple #[])) := by
  obtain ⟨A, hC, hx', hM⟩ := h
  refine (mine_unpin hM (k := 7) (by decide) rfl).mono ?_
  rintro e w' ⟨he, hM'⟩
  exact ⟨he, _, hC.unpin, hx', hM'⟩
theorem chain_live (h : AtChain N w0 p lim b k x pn φ m w) (hm : m < 1000000000) {v : Int} (hv : v = 2 * (k : Int)) : Calls Try.prog 18 #[.pointer (some ⟨p, 0, none⟩)] w (ChainNew N w0 p lim b k x pn m (.int .i64 v)) := by
  obtain ⟨A, hC, hx', hM⟩ := h
  refine (mine_live hM (by rw [hC.st]; simp) hm (v := v) (by rw [hC.live hx' hM.wf, hv]; simp)).mono ?_
  rintro e w' ⟨he, φ', hM'⟩
  exact ⟨he, φ', _, hC, hx', hM'⟩
/-- Where j steps along the ring lead. -/
def ringAt (b k j : Nat) : Nat := if j < k then b + k - 1 - j else b + k - 1
theorem chain_field (h : AtChain N w0 p lim b k (obj (b + k - 1)) pn φ m w) (j : Nat) (hj : j < k) : Calls Try.prog 25 #[.pointer (some ⟨p, 0, none⟩), .int .i64 (word φ (obj (ringAt b k j))), .int .i64 0] w (ChainEnd N w0 p lim b k (obj (b + k - 1)) pn φ m (.int .i64 (word φ (obj (ringAt b k (j + 1)))))) := by
  obtain ⟨A, hC, hx', hM⟩ := h
  have e1 : ringAt b k j = b + (k - 1 - j) := by unfold ringAt; rw [if_pos hj]; omega
  have e2 : A.fieldI (obj (b + (k - 1 - j))) 0 = obj (ringAt b k (j + 1)) := by
    rw [hC.field (by omega)]
    unfold ringAt
    by_cases e : k - 1 - j = 0
    · rw [if_pos e, if_neg (by omega)]
    · rw [if_neg e, if_pos (by omega)]; congr 1; omega
  rw [e1]
  refine (hM.quiet (mine_field hM (r := obj (b + (k - 1 - j))) (hC.ok (by omega)) rfl 0 (by rw [e2]))).mono ?_
  rintro e w' ⟨he, hM'⟩
  exact ⟨he, _, hC, hx', hM'⟩
def BareEnd (N : Nat) (w0 : World) (p lim m : Nat) (v : Value) (e : Ending) (w : World) : Prop := e = .returned v ∧ AtBare N w0 p lim m w
theorem chain_drop (h : AtChain N w0 p lim b k x false φ m w) : Calls Try.prog 17 #[.pointer (some ⟨p, 0, none⟩), .int .i64 1] w (BareEnd N w0 p lim m (.tuple #[])) := by
  obtain ⟨A, hC, hx', hM⟩ := h
  refine (mine_drop hM 1 rfl).mono ?_
  rintro e w' ⟨he, hM'⟩
  exact ⟨he, _, φ, hC.drop, hM'⟩
theorem bare_live (h : AtBare N w0 p lim m w) (hm : m < 1000000000) : Calls Try.prog 18 #[.pointer (some ⟨p, 0, none⟩)] w (BareEnd N w0 p lim m (.int .i64 0)) := by
  obtain ⟨A, φ, hC, hM⟩ := h
  refine (mine_live hM (by rw [hC.st]; decide) hm (v := 0) (by rw [hC.live hM.wf]; rfl)).mono ?_
  rintro e w' ⟨he, φ', hM'⟩
  exact ⟨he, _, φ', hC, hM'⟩
end

def RingLoop (N : Nat) (w0 : World) (p s R : Nat) (k : Nat) (v : Value) (w : World) : Prop := ∃ i m : Nat, v = .int .i64 i ∧ i + k = R ∧ m ≤ i ∧ AtBare N w0 p (2 * s + 1) m w
def ChainLoop (N : Nat) (w0 : World) (p s b i m : Nat) (k : Nat) (v : Value) (w : World) : Prop := ∃ (j : Nat) (φ : Nat → Nat), v = .int .i64 j ∧ j + k = s ∧ AtChain N w0 p (2 * s + 1) b j (imm i) true φ m w
def StepLoop (N : Nat) (w0 : World) (p s b m : Nat) (φ : Nat → Nat) (k : Nat) (v1 v2 : Value) (w : World) : Prop := ∃ j : Nat, v2 = .int .i64 j ∧ j + k = s ∧ v1 = .int .i64 (word φ (obj (ringAt b s j))) ∧ AtChain N w0 p (2 * s + 1) b s (obj (b + s - 1)) false φ m w

set_option maxRecDepth 100000 in
set_option maxHeartbeats 3200000 in
theorem rings_walk (c f0 : Int) (w : World) : Calls Try.prog 5 #[.int .i64 c, .int .i64 f0] w fun e w' => e = .returned (.bool true) ∧ Below w.heap.size w w' := by
  obtain ⟨C, hC, hC1⟩ : ∃ C : Nat, wrap64 ((IntKind.u64.wrap c).tmod 20) = (C : Int) ∧ C < 20 := by
    have e1 : IntKind.u64.wrap c = c % 18446744073709551616 := rfl
    have h0 : 0 ≤ IntKind.u64.wrap c := by omega
    have e2 := Int.tmod_eq_emod_of_nonneg (b := 20) h0
    refine ⟨(IntKind.u64.wrap c % 20).toNat, ?_, by omega⟩
    rw [e2]; unfold wrap64; omega
  obtain ⟨f, hf, hf1⟩ : ∃ C : Nat, wrap64 ((IntKind.u64.wrap f0).tmod 40) = (C : Int) ∧ C < 40 := by
    have e1 : IntKind.u64.wrap f0 = f0 % 18446744073709551616 := rfl
    have h0 : 0 ≤ IntKind.u64.wrap f0 := by omega
    have e2 := Int.tmod_eq_emod_of_nonneg (b := 40) h0
    refine ⟨(IntKind.u64.wrap f0 % 40).toNat, ?_, by omega⟩
    rw [e2]; unfold wrap64; omega
  have hf2 : (f : Int) < 40 := by omega
  have hC2 : (C : Int) < 20 := by omega
  have hs : (1 : Int) + (C : Int) = ((C + 1 : Nat) : Int) := by omega
  have hr : (1 : Int) + (f : Int) = ((f + 1 : Nat) : Int) := by omega
  obtain ⟨s, hsv⟩ : ∃ s, s = C + 1 := ⟨_, rfl⟩
  obtain ⟨R, hRv⟩ : ∃ s, s = f + 1 := ⟨_, rfl⟩
  rw [← hsv] at hs
  rw [← hRv] at hr
  have hs1 : 0 < (s : Int) := by omega
  have hs2 : (s : Int) ≤ 20 := by omega
  have hr1 : (R : Int) ≤ 40 := by omega
  have hs3 : s ≤ 20 := by omega
  have hs4 : 0 < s := by omega
  clear hsv hRv
  go_enter Try.func5, Try.ntmps5
  go_wp2_with
    (first
     | ((go_at_call 14; refine (mine_new _ (2 * s + 1) (by omega) (by omega)).mono ?_; rintro e w1 ⟨p, rfl, M⟩; have M1 := Lib.hid M; clear M))
     | ((go_at_call 10; refine (heaps_any _).mono ?_; rintro e w2 ⟨rfl, B⟩; have M2 := Lib.hid (M1.out.later B); clear B M1)))
  clear hC hf hs hr hC2 hf2 hC1 hf1
  have HL : Hid (RingLoop w.heap.size w p s R R (.int .i64 0) w2) := ⟨0, 0, rfl, by omega, by omega, _, _, bare_empty _, M2.out⟩
  clear M2
  go_loopg [7] R (fun k v wr => RingLoop w.heap.size w p s R k v wr)
  case atStart => exact HL.out
  case round =>
    clear HL
    obtain ⟨i, m, rfl, hik, hmi, hB⟩ := hrel
    have HB := Lib.hid hB
    clear hB
    have hi2 : (i : Int) ≤ 40 := by omega
    by_cases hlt : i < R
    · have hm2 : m < 1000 := by omega
      go_wp2_with
        (first
         | ((go_at_call 9; refine (imm_nat i (by omega) _).mono ?_; rintro e w' ⟨rfl, rfl⟩))
         | ((go_at_call 15; refine (bare_push HB.out i (by omega)).mono ?_; rintro e w2 ⟨rfl, M⟩; have M2 := Lib.hid M; clear M HB))
         | ((go_at_call 16; refine (one_make M2.out rfl (by omega) (by omega)).mono ?_; rintro e w3 ⟨rfl, b, φ, M⟩; have M3 := Lib.hid M; clear M M2))
         | ((go_at_call 21; refine (chain_top M3.out).mono ?_; rintro e w4 ⟨rfl, M⟩; have M4 := Lib.hid M; clear M M3))
         | ((go_at_call 20; refine (chain_pin M4.out (by omega) (by omega)).mono ?_; rintro e w5 ⟨rfl, M⟩; have M5 := Lib.hid M; clear M M4)))
      have HL : Hid (ChainLoop w.heap.size w p s b i (m + 1) (s - 1) (.int .i64 1) w5) := ⟨1, φ, rfl, by omega, M5.out⟩
      clear M5
      go_loopg [8] (s - 1) (fun k v wr => ChainLoop w.heap.size w p s b i (m + 1) k v wr)
      case atStart => exact HL.out
      case round =>
        clear HL
        obtain ⟨j, φ, rfl, hjk, hB⟩ := hrel
        have HB := Lib.hid hB
        clear hB
        have hj2 : (j : Int) ≤ 40 := by omega
        by_cases hlt : j < s
        · go_wp2_with
            ((go_at_call 16; refine (chain_make HB.out rfl (by omega) (by omega)).mono ?_; rintro e w3 ⟨rfl, φ2, M⟩; have M3 := Lib.hid M; clear M HB))
          go_roundg (gk - 1)
          case measure => omega
          case rel => exact ⟨j + 1, φ2, by go_num, by omega, M3.out⟩
        · obtain rfl : j = s := by omega
          go_wp2_with
            (first
             | ((go_at_call 22; refine (chain_pinned HB.out).mono ?_; rintro e w' ⟨rfl, rfl⟩))
             | ((go_at_call 21; refine (chain_top HB.out).mono ?_; rintro e w4 ⟨rfl, M⟩; have M4 := Lib.hid M; clear M HB))
             | ((go_at_call 23; refine (chain_set M4.out).mono ?_; rintro e w5 ⟨rfl, M⟩; have M5 := Lib.hid M; clear M M4))
             | ((go_at_call 24; refine (chain_unpin M5.out).mono ?_; rintro e w6 ⟨rfl, M⟩; have M6 := Lib.hid M; clear M M5))
             | ((go_at_call 18; refine (chain_live M6.out (by omega) rfl).mono ?_; rintro e w7 ⟨rfl, φ7, M⟩; have M7 := Lib.hid M; clear M M6))
             | ((go_at_call 21; refine (chain_top M7.out).mono ?_; rintro e w8 ⟨rfl, M⟩; have M8 := Lib.hid M; clear M M7)))
          have HL : Hid (StepLoop w.heap.size w p j b (m + 1) φ7 j (.int .i64 (word φ7 (obj (b + j - 1)))) (.int .i64 0) w8) := ⟨0, rfl, by omega, by unfold ringAt; rw [if_pos hs4]; rfl, M8.out⟩
          clear M8
          go_loopg [11, 12] j (fun k v1 v2 wr => StepLoop w.heap.size w p j b (m + 1) φ7 k v1 v2 wr)
          case atStart => exact HL.out
          case round =>
            clear HL
            obtain ⟨q, rfl, hqk, rfl, hB⟩ := hrel
            have HB := Lib.hid hB
            clear hB
            have hq2 : (q : Int) ≤ 40 := by omega
            by_cases hlt : q < j
            · go_wp2_with
                ((go_at_call 25; refine (chain_field HB.out q hlt).mono ?_; rintro e w3 ⟨rfl, M⟩; have M3 := Lib.hid M; clear M HB))
              go_roundg (gk - 1)
              case measure => omega
              case rel => exact ⟨q + 1, by go_num, by omega, rfl, M3.out⟩
            · obtain rfl : q = j := by omega
              have hend : ringAt b q q = b + q - 1 := by unfold ringAt; rw [if_neg (by omega)]
              rw [hend]
              clear hend
              go_wp2_with
                (first
                 | ((go_at_call 21; refine (chain_top HB.out).mono ?_; rintro e w4 ⟨rfl, M⟩; have M4 := Lib.hid M; clear M HB))
                 | ((go_at_call 17; refine (chain_drop M4.out).mono ?_; rintro e w5 ⟨rfl, M⟩; have M5 := Lib.hid M; clear M M4))
                 | ((go_at_call 18; refine (bare_live M5.out (by omega)).mono ?_; rintro e w6 ⟨rfl, M⟩; have M6 := Lib.hid M; clear M M5)))
              go_roundg (R - i - 1)
              case measure => omega
              case rel => exact ⟨i + 1, m + 1, by go_num, by omega, by omega, M6.out⟩
    · obtain rfl : i = R := by omega
      go_wp2
      go_ret
      exact ⟨rfl, HB.out.below⟩
end Go.Proofs.Ytlbiapgikkjooaa
