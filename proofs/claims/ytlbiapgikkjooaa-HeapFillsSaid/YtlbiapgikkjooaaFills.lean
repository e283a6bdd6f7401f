/- HeapFills: the walk. -/
import Derived.Test.YtlbiapgikkjooaaHeaps
import Derived.Test.YtlbiapgikkjooaaMine
import Derived.Test.YtlbiapgikkjooaaFlat
import Derived.Test.YtlbiapgikkjooaaEnd
import Derived.Outline
namespace Go.Proofs.Ytlbiapgikkjooaa
open Go.RowKit Go.Maps Hp

theorem imm_nat (n : Nat) (h : n < 1000000000) (w : World) : Calls Try.prog 9 #[.int .i64 (n : Int)] w fun e w' => e = .returned (.int .i64 (2 * (n : Int) + 1)) ∧ w = w' := by
  have := imm_any n w
  rwa [wr_of_in _ (by omega) (by omega)] at this

theorem dropOf_nat (n : Nat) : dropOf (n : Int) = n := by unfold dropOf; omega

def FillLoop (N : Nat) (w0 : World) (p C f : Nat) (k : Nat) (s : Value) (w : World) : Prop :=
  ∃ l A φ, s = .int .i64 (l.length : Nat) ∧ l.length + k = C ∧ l.length * (1 + f) ≤ C ∧ Flat A C f l 0 ∧ Mine N w0 p A φ 0 w
def GoneLoop (N : Nat) (w0 : World) (p C f n G : Nat) (k : Nat) (s : Value) (w : World) : Prop :=
  ∃ (i : Nat) (l : List Nat) (A : AH) (φ : Nat → Nat), s = .int .i64 i ∧ i + k = G ∧ l.length = n - G + i ∧ Flat A C f l 0 ∧ Mine N w0 p A φ 0 w
def PushLoop (N : Nat) (w0 : World) (p C f : Nat) (l : List Nat) (k : Nat) (s : Value) (w : World) : Prop :=
  ∃ (i : Nat) (A : AH) (φ : Nat → Nat), s = .int .i64 i ∧ i + k = f ∧ Flat A C f l i ∧ Mine N w0 p A φ 0 w

set_option maxRecDepth 100000 in
set_option maxHeartbeats 3200000 in
theorem fills_walk (c f0 d : Int) (w : World) : Calls Try.prog 4 #[.int .i64 c, .int .i64 f0, .int .i64 d] w fun e w' => e = .returned (.bool true) ∧ Below w.heap.size w w' := by
  obtain ⟨C, hC, hC1⟩ : ∃ C : Nat, wrap64 ((IntKind.u64.wrap c).tmod 500) = (C : Int) ∧ C < 500 := by
    have e1 : IntKind.u64.wrap c = c % 18446744073709551616 := rfl
    have h0 : 0 ≤ IntKind.u64.wrap c := by omega
    have e2 := Int.tmod_eq_emod_of_nonneg (b := 500) h0
    refine ⟨(IntKind.u64.wrap c % 500).toNat, ?_, by omega⟩
    rw [e2]; unfold wrap64; omega
  obtain ⟨f, hf, hf1⟩ : ∃ C : Nat, wrap64 ((IntKind.u64.wrap f0).tmod 9) = (C : Int) ∧ C < 9 := by
    have e1 : IntKind.u64.wrap f0 = f0 % 18446744073709551616 := rfl
    have h0 : 0 ≤ IntKind.u64.wrap f0 := by omega
    have e2 := Int.tmod_eq_emod_of_nonneg (b := 9) h0
    refine ⟨(IntKind.u64.wrap f0 % 9).toNat, ?_, by omega⟩
    rw [e2]; unfold wrap64; omega
  have hf2 : (f : Int) < 9 := by omega
  have hC2 : (C : Int) < 500 := by omega
  go_enter Try.func4, Try.ntmps4
  go_wp2_with
    (first
     | ((go_at_call 14; refine (mine_new _ C (by omega) rfl).mono ?_; rintro e w1 ⟨p, rfl, M⟩; have M1 := Lib.hid M; clear M))
     | ((go_at_call 10; refine (heaps_any _).mono ?_; rintro e w2 ⟨rfl, B⟩; have M2 := Lib.hid (M1.out.later B); clear B M1)))
  clear hC hf
  have HL : Hid (FillLoop w.heap.size w p C f C (.int .i64 0) w2) := ⟨[], _, _, rfl, by simp, by simp, flat_empty _ _, M2.out⟩
  clear M2
  go_loopg [9] C (fun k s wr => FillLoop w.heap.size w p C f k s wr)
  case atStart => exact HL.out
  case round =>
    clear HL
    obtain ⟨l, A, φ, rfl, hlk, hlC, hF, hM⟩ := hrel
    have HP : Hid (PushLoop w.heap.size w p C f l f (.int .i64 0) wr) := ⟨0, A, φ, rfl, by omega, hF, hM⟩
    clear hF hM
    go_wp2
    go_loopg [10] f (fun k s wr => PushLoop w.heap.size w p C f l k s wr)
    case atStart => exact HP.out
    case round =>
      clear HP
      obtain ⟨i, A, φ, rfl, hik, hF, hM⟩ := hrel
      have HF := Lib.hid hF
      have HM := Lib.hid hM
      clear hF hM
      have hlen : A.stack.length < 1000000000 := by rw [HF.out.len]; have := Nat.le_mul_of_pos_right l.length (show 0 < 1 + f by omega); omega
      have HLN := Lib.hid hlen
      clear hlen
      by_cases hlt : i < f
      · have HS : Hid (Flat (A.push (imm i)) C f l (i + 1)) := HF.out.push
        have hok : Hid (A.Ok (imm (i : Int))) := ok_imm (by omega) (by omega)
        go_wp2_with
          (first
           | ((go_at_call 9; refine (imm_nat i (by omega) _).mono ?_; rintro e w' ⟨rfl, rfl⟩))
           | ((go_at_call 15; refine (mine_push HM.out HLN.out (r := imm i) hok.out (by rfl) rfl).mono ?_; rintro e w2 ⟨rfl, M⟩; have M2 := Lib.hid M; clear M)))
        go_roundg (gk - 1)
        case measure => omega
        case rel => exact ⟨i + 1, _, φ, by go_num, by omega, HS.out, M2.out⟩
      · obtain rfl : i = f := by omega
        have hlv : Hid (A.live = l.length * (1 + i)) := HF.out.live HM.out.wf
        have hlm : Hid (A.limit = C) := HF.out.lim
        have hst : Hid (i ≤ A.stack.length) := by rw [HF.out.len]; exact Nat.le_add_left _ _
        have hll : l.length ≤ C := by omega
        by_cases hroom : l.length * (1 + i) + (1 + i) ≤ C
        · have hr : Hid (A.live + (1 + i) ≤ A.limit) := by rw [hlv.out, hlm.out]; exact hroom
          have hle : Hid ((l.length + 1) * (1 + i) ≤ C) := by rw [Nat.add_mul, Nat.one_mul]; exact hroom
          have hlt : l.length + 1 ≤ C := Nat.le_trans (Nat.le_mul_of_pos_right _ (by omega)) hle.out
          have HG : Hid (Flat (A.make 3 i) C i (l ++ [A.objs.length]) 0) := HF.out.make 3
          clear hroom hlC
          go_wp2_with
            ((go_at_call 16; refine (mine_makes HM.out HLN.out (by omega) 3 i rfl rfl (by omega) hst.out hr.out rfl).mono ?_; rintro e w2 ⟨rfl, φ2, M⟩; have M2 := Lib.hid M; clear M))
          go_roundg (C - l.length - 1)
          case measure => omega
          case rel => exact ⟨l ++ [A.objs.length], _, φ2, by simp, by simp; omega, by simpa using hle.out, HG.out, M2.out⟩
        · have hr : Hid (¬ A.live + (1 + i) ≤ A.limit) := by rw [hlv.out, hlm.out]; exact hroom
          have HG : Hid (Flat (A.drop i) C i l 0) := HF.out.drop
          have HN : Hid (C / (1 + i) = l.length) := by
            have h1 : (l.length + 1) * (1 + i) > C := by rw [Nat.add_mul, Nat.one_mul]; omega
            exact Nat.div_eq_of_lt_le hlC h1
          have hn2 : wrap64 ((C : Int) / (1 + (i : Int))) = (l.length : Int) := by
            rw [show (C : Int) / (1 + (i : Int)) = ((C / (1 + i) : Nat) : Int) by simp, HN.out]
            exact wrap_id _ (by omega) (by omega)
          have hl2 : Hid ((A.drop i).stack.length < 1000000000) := by rw [HG.out.len]; show l.length + 0 < _; omega
          have hl3 : Hid (((l.length : Nat) : Int) = ((A.drop i).stack.length : Int)) := by rw [HG.out.len]; rfl
          obtain ⟨L, hL⟩ : ∃ L : Nat, L = l.length * (1 + i) := ⟨_, rfl⟩
          have hL2 : ((l.length : Int) * (1 + (i : Int))) = (L : Int) := by rw [hL]; simp
          have hL3 : (L : Int) < 500 := by rw [hL]; omega
          have hLL : Hid (∀ h : (A.drop i).Wf, ((L : Nat) : Int) = ((A.drop i).live : Int)) := fun h => by rw [HG.out.live h, hL]
          have HLe := Lib.hid hL
          have hdp : Hid (A.drop i = A.drop (dropOf (i : Int))) := by rw [dropOf_nat]; rfl
          obtain ⟨G, hG, hG1⟩ : ∃ G : Nat, wrap64 ((IntKind.u64.wrap d).tmod ((l.length : Int) + 1)) = (G : Int) ∧ G ≤ l.length := by
            have e1 : IntKind.u64.wrap d = d % 18446744073709551616 := rfl
            have h0 : 0 ≤ IntKind.u64.wrap d := by omega
            have e2 := Int.tmod_eq_emod_of_nonneg (b := (l.length : Int) + 1) h0
            have e3 := Int.emod_nonneg (IntKind.u64.wrap d) (show (l.length : Int) + 1 ≠ 0 by omega)
            have e4 := Int.emod_lt_of_pos (IntKind.u64.wrap d) (show 0 < (l.length : Int) + 1 by omega)
            refine ⟨(IntKind.u64.wrap d % ((l.length : Int) + 1)).toNat, ?_, by omega⟩
            rw [e2]; unfold wrap64; omega
          have hd2 : Hid ((A.drop i).drop G = (A.drop i).drop (dropOf (G : Int))) := by rw [dropOf_nat]; rfl
          have HG2 : Hid (Flat ((A.drop i).drop G) C i (l.take (l.length - G)) 0) := HG.out.dropL G
          have hlen4 : Hid ((l.take (l.length - G)).length = l.length - G + 0) := by rw [List.length_take]; show min _ _ = _; omega
          have hlC2 : Hid (l.length * (1 + i) ≤ C) := hlC
          clear hroom hlC hL HN
          go_wp2_with
            (first
             | ((go_at_call 16; refine (mine_makes_not HM.out HLN.out (by omega) 3 i rfl rfl (by omega) hst.out hr.out).mono ?_; rintro e w2 ⟨rfl, φ2, M⟩; have M2 := Lib.hid M; clear M))
             | ((go_at_call 17; (with_reducible refine (mine_drop M2.out (i : Int) hdp.out).mono ?_); rintro e w3 ⟨rfl, M⟩; have M3 := Lib.hid M; clear M))
             | ((go_at_call 17; (with_reducible refine (mine_drop M4.out (G : Int) hd2.out).mono ?_); rintro e w5 ⟨rfl, M⟩; have M5 := Lib.hid M; clear M))
             | ((go_at_call 18; refine (mine_live M3.out hl2.out (by omega) (hLL.out M3.out.wf)).mono ?_; rintro e w4 ⟨rfl, φ4, M⟩; have M4 := Lib.hid M; clear M))
             | ((go_at_call 19; refine (mine_height M4.out hl3.out).mono ?_; rintro e w' ⟨rfl, rfl⟩)))
          have HGL : Hid (GoneLoop w.heap.size w p C i l.length G G (.int .i64 0) w5) := ⟨0, _, _, _, rfl, by omega, hlen4.out, HG2.out, M5.out⟩
          have HL2 := Lib.hid hL2
          clear HG2 M5 hlen4 hn2 hG hL2 hdp hd2
          go_loopg [13] G (fun k s wr => GoneLoop w.heap.size w p C i l.length G k s wr)
          case atStart => exact HGL.out
          case round =>
            clear HGL
            obtain ⟨j, l', A, φ, rfl, hjk, hl', hF, hM⟩ := hrel
            by_cases hlt : j < G
            · have hj2 : (j : Int) < 500 := by omega
              have HP : Hid (PushLoop w.heap.size w p C i l' i (.int .i64 0) wr) := ⟨0, A, φ, rfl, by omega, hF, hM⟩
              clear hF hM
              go_wp2
              go_loopg [14] i (fun k s wr => PushLoop w.heap.size w p C i l' k s wr)
              case atStart => exact HP.out
              case round =>
                clear HP
                obtain ⟨q, A, φ, rfl, hqk, hF, hM⟩ := hrel
                have HF := Lib.hid hF
                have HM := Lib.hid hM
                clear hF hM
                have HLN : Hid (A.stack.length < 1000000000) := by rw [HF.out.len]; show l'.length + q < _; omega
                by_cases hlt : q < i
                · have HS : Hid (Flat (A.push (imm q)) C i l' (q + 1)) := HF.out.push
                  have hok : Hid (A.Ok (imm (q : Int))) := ok_imm (by omega) (by omega)
                  go_wp2_with
                    (first
                     | ((go_at_call 9; refine (imm_nat q (by omega) _).mono ?_; rintro e w' ⟨rfl, rfl⟩))
                     | ((go_at_call 15; refine (mine_push HM.out HLN.out (r := imm q) hok.out (by rfl) rfl).mono ?_; rintro e w2 ⟨rfl, M⟩; have M2 := Lib.hid M; clear M)))
                  go_roundg (gk - 1)
                  case measure => omega
                  case rel => exact ⟨q + 1, _, φ, by go_num, by omega, HS.out, M2.out⟩
                · obtain rfl : q = i := by omega
                  have hlv : Hid (A.live = l'.length * (1 + q)) := HF.out.live HM.out.wf
                  have hlm : Hid (A.limit = C) := HF.out.lim
                  have hst : Hid (q ≤ A.stack.length) := by rw [HF.out.len]; exact Nat.le_add_left _ _
                  have hr : Hid (A.live + (1 + q) ≤ A.limit) := by
                    rw [hlv.out, hlm.out]
                    have h1 : (l'.length + 1) * (1 + q) ≤ l.length * (1 + q) := Nat.mul_le_mul_right _ (by omega)
                    rw [Nat.add_mul, Nat.one_mul] at h1
                    exact Nat.le_trans h1 hlC2.out
                  have HG : Hid (Flat (A.make 4 q) C q (l' ++ [A.objs.length]) 0) := HF.out.make 4
                  go_wp2_with
                    ((go_at_call 16; refine (mine_makes HM.out HLN.out (by omega) 4 q rfl rfl (by omega) hst.out hr.out rfl).mono ?_; rintro e w2 ⟨rfl, φ2, M⟩; have M2 := Lib.hid M; clear M))
                  go_roundg (G - j - 1)
                  case measure => omega
                  case rel => exact ⟨j + 1, l' ++ [A.objs.length], _, φ2, by go_num, by omega, by simp; omega, HG.out, M2.out⟩
            · obtain rfl : j = G := by omega
              have HF := Lib.hid hF
              have HM := Lib.hid hM
              have hlv : Hid (∀ h : A.Wf, (L : Int) = (A.live : Int)) := fun h => by rw [HF.out.live h, HLe.out, show l'.length = l.length by omega]
              have HLN : Hid (A.stack.length < 1000000000) := by rw [HF.out.len]; show l'.length + 0 < _; omega
              clear hF hM
              have hL2 := HL2.out
              go_wp2_with
                ((go_at_call 18; refine (mine_live HM.out HLN.out (by omega) (hlv.out HM.out.wf)).mono ?_; rintro e w4 ⟨rfl, φ4, M⟩; have M4 := Lib.hid M; clear M))
              go_ret
              exact ⟨rfl, M4.out.below⟩
end Go.Proofs.Ytlbiapgikkjooaa
