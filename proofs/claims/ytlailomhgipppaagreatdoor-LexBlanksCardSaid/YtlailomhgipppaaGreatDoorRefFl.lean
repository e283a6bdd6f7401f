/- The reference's ReadFloat. -/
import Derived.Test.YtlailomhgipppaaGreatDoorFlRead
namespace Go.Proofs.YtlailomhgipppaaGreatDoor
open Go.RowKit
set_option linter.unusedVariables false
set_option linter.unusedSimpArgs false

theorem fw_ten : fw 10 = 4621819117588971520 := by decide +kernel
theorem fw_one : fw 1 = 4607182418800017408 := by decide +kernel
theorem mul_ten (t : TypeId) {v : Nat} (h : v * 10 < 9007199254740992) (W : World) : (binOp .mul t (.float .f64 (fw v)) (.float .f64 4621819117588971520)).run Tryz.prog W = .ok (.float .f64 (fw (v * 10))) W := by
  rw [← fw_ten]
  exact run_float_arith W .mul t .f64 _ _ _ ((fw_bears (by omega)).prod (fw_bears (by omega)) (fw_bears h))
theorem add_fw (t : TypeId) {v d : Nat} (h : v + d < 9007199254740992) (W : World) : (binOp .add t (.float .f64 (fw v)) (.float .f64 (fw d))).run Tryz.prog W = .ok (.float .f64 (fw (v + d))) W :=
  run_float_arith W .add t .f64 _ _ _ ((fw_bears (by omega)).sum (fw_bears (by omega)) (fw_bears h))
theorem dval15 (l : List UInt8) (h : l.all isDig = true) (hl : l.length ≤ 15) : dval 0 l < 1000000000000000 := by
  have h1 := dval_lt l 0 h
  have h2 : 10 ^ l.length ≤ 10 ^ 15 := Nat.pow_le_pow_right (by omega) hl
  have h3 : (10 : Nat) ^ 15 = 1000000000000000 := by decide
  omega
theorem floatT_bad {l r : List UInt8} (hr : unsignedT l = r) {j : Nat} {c : UInt8} (h : r[j]? = some c) (hc : ¬ (48 ≤ c.toNat ∧ c.toNat ≤ 57)) (h2 : c = 46 → ∃ A B, r.take j = A ++ 46 :: B) : floatT l = (0, 2) := by
  unfold floatT
  rw [hr]
  refine if_neg fun hh => ?_
  rw [Bool.and_eq_true, Bool.and_eq_true] at hh
  obtain ⟨h1, ha, hb⟩ := hh
  unfold digs at ha hb
  rw [Bool.and_eq_true] at ha hb
  have hsp := cut_split h1
  have hj := h
  rw [hsp] at hj
  rcases point_at ha.2 hb.2 hj with ⟨e1, e2⟩ | ⟨e1, e2⟩
  · obtain ⟨A, B, hA⟩ := h2 e2
    have hlt : A.length < j := by
      have := congrArg List.length hA
      rw [List.length_take, List.length_append, List.length_cons] at this
      omega
    have h46 : r[A.length]? = some 46 := by
      have : (r.take j)[A.length]? = some 46 := by rw [hA]; simp
      rwa [List.getElem?_take_of_lt hlt] at this
    rw [hsp] at h46
    rcases point_at ha.2 hb.2 h46 with ⟨e3, _⟩ | ⟨_, e3⟩
    · omega
    · exact absurd e3.1 (by decide)
  · exact hc e2
theorem floatT_none {l r : List UInt8} (hr : unsignedT l = r) (h : r.all isDig = true) : floatT l = (0, 2) := by
  unfold floatT
  rw [hr]
  refine if_neg fun hh => ?_
  rw [Bool.and_eq_true] at hh
  have := hh.1
  rw [List.contains_iff_mem] at this
  exact absurd (isDig_iff.1 (List.all_eq_true.1 h 46 this)).1 (by decide)
theorem floatT_full {l r A B : List UInt8} (hr : unsignedT l = r) (h : r = A ++ 46 :: B) (hA : A.all isDig = true) (hB : B.all isDig = true) :
    floatT l = if A = [] ∨ B = [] then (0, 2) else if 15 < A.length + B.length then (0, 4) else (signed2 (signB l) (quotR (dval 0 (A ++ B)) B.length), 0) := by
  unfold floatT
  obtain ⟨e1, e2⟩ := cut_txt h hA
  have hc : r.contains 46 = true := by rw [h]; simp
  rw [hr, e1, e2, hc, Bool.true_and]
  by_cases h1 : A = [] ∨ B = []
  · rw [if_pos h1]
    refine if_neg fun hh => ?_
    unfold digs at hh
    rw [Bool.and_eq_true] at hh
    rcases h1 with rfl | rfl
    · simp at hh
    · simp at hh
  · rw [if_neg h1]
    have e : (digs A && digs B) = true := by
      unfold digs
      rw [hA, hB]
      rw [not_or] at h1
      cases A <;> cases B <;> simp_all
    rw [if_pos e]
theorem ret_u2 {a b : Int} (h : a = b) : Ending.returned (.tuple #[.int .u64 a, .int .i64 0]) = .returned (.tuple #[.int .u64 b, .int .i64 0]) := by rw [h]
def FlLoop (r : List UInt8) (j0 : Nat) (W : World) (gk : Nat) (s5 s6 s7 s8 s9 s10 s11 : Value) (wr : World) : Prop :=
  ∃ (k j a b : Nat) (A B : List UInt8) (X T : Nat) (pt : Bool), Hid (k = j + j0) ∧ s5 = .int .i64 (k : Int) ∧ s6 = .float .f64 X ∧ s7 = .float .f64 T ∧ s8 = .int .i64 ((a : Int) + (b : Int)) ∧ s9 = .int .i64 (a : Int) ∧ s10 = .int .i64 (b : Int) ∧ s11 = .bool pt ∧ Hid (j + gk = r.length) ∧
    Hid (X = fw (dval 0 ((A ++ B).take 15))) ∧ Hid (T = fw (10 ^ min b 15)) ∧ Hid (a = A.length ∧ b = B.length) ∧ a + b ≤ j ∧ j ≤ 2000 ∧ Hid (r.take j = A ++ (if pt then 46 :: B else [])) ∧ Hid (pt = false → B = []) ∧ Hid (A.all isDig = true ∧ B.all isDig = true) ∧ wr = W
set_option maxRecDepth 100000 in
set_option maxHeartbeats 6400000 in
theorem refFl_any (s : ByteArray) (hs : s.size ≤ 2000) (w : World) :
    Calls Tryz.prog 17 #[.string s] w fun e w' => e = .returned (.tuple #[.int .u64 ((floatT s.data.toList).1 : Int), .int .i64 (floatT s.data.toList).2]) ∧ w = w' := by
  have hsz := Lib.size_eq s
  obtain ⟨l, hl⟩ : ∃ l, l = s.data.toList := ⟨_, rfl⟩
  rw [← hl] at hsz ⊢
  have hat : ∀ (k : Nat) (hk : k < s.size) (c : UInt8), l[k]? = some c → s[k]'hk = c := fun k hk c hc => by
    have := Lib.getD_at s k hk
    rw [← hl, List.getD_eq_getElem?_getD, hc] at this
    exact this
  clear hl
  cases l with
  | nil =>
    have hs0 : s.size = 0 := hsz
    have hr : floatT [] = (0, 2) := rfl
    clear hat hsz
    rw [hr]
    clear hr
    go_enter Tryz.func17, Tryz.ntmps17
    go_wp2
    refine wp_loop_rounds 1 ?_
    rw [rounds_succ]
    go_wp2
    go_ret2
    exact ⟨rfl, rfl⟩
  | cons c0 r0 =>
    have hlen : s.size = r0.length + 1 := hsz
    have hpos : 0 < s.size := by omega
    have hs0 := hat 0 hpos c0 rfl
    have HAT := Lib.hid hat
    clear hsz hat
    obtain ⟨neg, j0, r, hneg, hst, hr, hrl, hrc⟩ : ∃ (neg : Bool) (j0 : Nat) (r : List UInt8), (neg = true ↔ c0 = 45) ∧ (neg = true ∧ j0 = 1 ∨ neg = false ∧ j0 = 0) ∧ unsignedT (c0 :: r0) = r ∧ r.length + j0 = s.size ∧ ∀ (j : Nat) (hj : j + j0 < s.size) (c : UInt8), r[j]? = some c → s[j + j0]'hj = c := by
      by_cases h45 : c0 = 45
      · subst h45
        exact ⟨true, 1, r0, by simp, .inl ⟨rfl, rfl⟩, rfl, by omega, fun j hj c hc => HAT.out (j + 1) hj c (by rw [List.getElem?_cons_succ]; exact hc)⟩
      · exact ⟨false, 0, c0 :: r0, by simp [h45], .inr ⟨rfl, rfl⟩, by unfold unsignedT; rw [if_neg (head_ne h45 _)], by simp; omega, fun j hj c hc => HAT.out j hj c hc⟩
    have hsB : signB (c0 :: r0) = neg := by
      unfold signB
      rw [Bool.eq_iff_iff, hneg]
      simp
    have HRC := Lib.hid hrc
    have HBAD : Hid (∀ (j : Nat) (c : UInt8), r[j]? = some c → ¬ (48 ≤ c.toNat ∧ c.toNat ≤ 57) → (c = 46 → ∃ A B, r.take j = A ++ 46 :: B) → floatT (c0 :: r0) = (0, 2)) := fun j c h1 h2 h3 => floatT_bad hr h1 h2 h3
    have HNONE : Hid (r.all isDig = true → floatT (c0 :: r0) = (0, 2)) := fun h => floatT_none hr h
    have HFULL : Hid (∀ A B : List UInt8, r = A ++ 46 :: B → A.all isDig = true → B.all isDig = true → floatT (c0 :: r0) = if A = [] ∨ B = [] then (0, 2) else if 15 < A.length + B.length then (0, 4) else (signed2 neg (quotR (dval 0 (A ++ B)) B.length), 0)) := fun A B h1 h2 h3 => by rw [← hsB]; exact floatT_full hr h1 h2 h3
    generalize floatT (c0 :: r0) = Z at *
    have HN := Lib.hid hneg
    have HRL := Lib.hid hrl
    obtain ⟨d0, hd0, hdn⟩ : ∃ d0 : Int, (c0.toNat : Int) = d0 ∧ (neg = true ∧ d0 = 45 ∧ j0 = 1 ∨ neg = false ∧ (d0 == 45) = false ∧ j0 = 0) := by
      refine ⟨_, rfl, ?_⟩
      rcases hst with ⟨h1, h2⟩ | ⟨h1, h2⟩
      · rw [hneg.1 h1]; exact .inl ⟨h1, rfl, h2⟩
      · refine .inr ⟨h1, ?_, h2⟩
        rw [beq_eq_false_iff_ne]
        intro e
        have : c0 = 45 := UInt8.toNat_inj.1 (by show c0.toNat = 45; omega)
        rw [hneg.2 this] at h1
        cases h1
    have hp1 : (0 : Int) < (s.size : Int) := by omega
    have hp2 : (s.size : Int) ≤ 2000 := by omega
    clear hst hneg hrc hrl hr hsB hlen
    rcases hdn with ⟨rfl, rfl, rfl⟩ | ⟨rfl, hd1, rfl⟩
    · go_enter Tryz.func17, Tryz.ntmps17
      go_wp2
      have HL : Hid (∀ k j0 : Nat, k = j0 → FlLoop r j0 w r.length (.int .i64 (k : Int)) (.float .f64 0) (.float .f64 4607182418800017408) (.int .i64 0) (.int .i64 0) (.int .i64 0) (.bool false) w) := fun k j0 hk =>
        ⟨k, 0, 0, 0, [], [], 0, 4607182418800017408, false, by show _ = _; omega, rfl, rfl, rfl, rfl, rfl, rfl, rfl, Nat.zero_add _, fw_zero.symm, fw_one.symm, ⟨rfl, rfl⟩, Nat.zero_le _, Nat.zero_le _, rfl, fun _ => rfl, ⟨rfl, rfl⟩, rfl⟩
      go_loopg [5, 6, 7, 8, 9, 10, 11] r.length (fun gk s5 s6 s7 s8 s9 s10 s11 wr => FlLoop r 1 w gk s5 s6 s7 s8 s9 s10 s11 wr)
      case atStart => exact HL.out _ _ rfl
      case round =>
        clear HL
        obtain ⟨k, j, a, b, A, B, X, T, pt, HK, rfl, rfl, rfl, rfl, rfl, rfl, rfl, HG, HX, HT, HAB, hab, hj2, HTK, HPT, HDG, rfl⟩ := hrel
        by_cases hgo : 0 < gk
        · have hjl : j < r.length := by have := HG.out; omega
          obtain ⟨c, hc⟩ : ∃ c, r[j]? = some c := ⟨_, List.getElem?_eq_getElem hjl⟩
          have hks : k < s.size := by have := HK.out; have := HRL.out; omega
          have hsc : s[k]'hks = c := by
            have e := HK.out
            have := HRC.out j (by omega) c hc
            simpa only [e] using this
          obtain ⟨d, hd⟩ : ∃ d : Int, (c.toNat : Int) = d := ⟨_, rfl⟩
          have g1 : (k : Int) < (s.size : Int) := by omega
          have HC := Lib.hid hc
          have HTN : Hid (r.take (j + 1) = r.take j ++ [c]) := by
            show _ = _
            rw [List.take_add_one, hc]
            rfl
          have HD : Hid ((c.toNat : Int) = d) := hd
          have HM1 : Hid (j + 1 ≤ 2000) := by have := HG.out; have := HRL.out; show _ ≤ _; omega
          clear hc hjl
          by_cases hc46 : d = 46
          · have HC46 : Hid (c = 46) := UInt8.toNat_inj.1 (by show c.toNat = 46; omega)
            cases pt
            · obtain rfl := HPT.out rfl
              subst hc46
              go_wp2
              go_roundg (gk - 1)
              case measure => have := HG.out; omega
              case rel => exact ⟨k + 1, j + 1, a, b, A, [], X, T, true, by have := HK.out; show _ = _; omega, by go_num, rfl, rfl, rfl, rfl, rfl, rfl, by have := HG.out; show _ = _; omega, HX, HT, HAB, by omega, HM1.out, by show _ = _; rw [HTN.out, HTK.out, HC46.out]; simp, (fun h => by cases h), HDG, rfl⟩
            · have HZ : Hid (Z = (0, 2)) := HBAD.out j c HC.out (by rw [HC46.out]; decide) (fun _ => ⟨A, B, HTK.out⟩)
              subst hc46
              go_wp2
              go_ret2
              rw [HZ.out]
              exact ⟨rfl, rfl⟩
          · have hne : (d == 46) = false := beq_eq_false_iff_ne.2 hc46
            by_cases hdg : 48 ≤ d ∧ d ≤ 57
            · obtain ⟨d1, d2⟩ := hdg
              have HCD : Hid (isDig c = true) := isDig_iff.2 (by omega)
              have HA2 : Hid ((A ++ [c]).all isDig = true) := by show _ = _; rw [List.all_append, HDG.out.1]; simpa using HCD.out
              have HB2 : Hid ((B ++ [c]).all isDig = true) := by show _ = _; rw [List.all_append, HDG.out.2]; simpa using HCD.out
              have HAC : Hid ((A ++ B).all isDig = true) := by show _ = _; rw [List.all_append, HDG.out.1, HDG.out.2]; rfl
              have HLN : Hid ((A ++ B).length = a + b) := by show _ = _; rw [List.length_append, HAB.out.1, HAB.out.2]
              obtain ⟨V, hV⟩ : ∃ V, V = dval 0 ((A ++ B).take 15) := ⟨_, rfl⟩
              by_cases hcnt : a + b < 15
              · have hap : ((A ++ B) ++ [c]).length = a + b + 1 := by rw [List.length_append, HLN.out]; rfl
                have hV2 : dval 0 (((A ++ B) ++ [c]).take 15) = V * 10 + (c.toNat - 48) := by
                  rw [List.take_of_length_le (by omega), dval_app, hV, List.take_of_length_le (by have := HLN.out; omega)]
                  rfl
                have hV3 : V * 10 + (c.toNat - 48) < 9007199254740992 := by
                  rw [← hV2, List.take_of_length_le (by omega)]
                  have := dval15 ((A ++ B) ++ [c]) (by rw [List.all_append, HAC.out]; simpa using HCD.out) (by omega)
                  omega
                obtain ⟨X1, hX1⟩ : ∃ X1, X1 = fw (V * 10) := ⟨_, rfl⟩
                obtain ⟨D, hD⟩ : ∃ D, D = fw (c.toNat - 48) := ⟨_, rfl⟩
                obtain ⟨X2, hX2⟩ : ∃ X2, X2 = fw (V * 10 + (c.toNat - 48)) := ⟨_, rfl⟩
                have hm : ∀ W, (binOp .mul 61 (.float .f64 X) (.float .f64 4621819117588971520)).run Tryz.prog W = .ok (.float .f64 X1) W := fun W => by
                  rw [HX.out, ← hV, hX1]
                  exact mul_ten _ (by omega) W
                have hcv : ∀ W, (convert 5 61 (.int .u8 (d - 48))).run Tryz.prog W = .ok (.float .f64 D) W := fun W => by
                  have e : d - 48 = ((c.toNat - 48 : Nat) : Int) := by omega
                  rw [e, hD]
                  exact run_convert_int_float (w := W) 5 61 .u8 .f64 _ (by kernel_rfl) Tryz.underlying61
                have hadd : ∀ W, (binOp .add 61 (.float .f64 X1) (.float .f64 D)).run Tryz.prog W = .ok (.float .f64 X2) W := fun W => by
                  rw [hX1, hD, hX2]
                  exact add_fw _ hV3 W
                have HX2 : Hid (X2 = fw (dval 0 (((A ++ B) ++ [c]).take 15))) := by show _ = _; rw [hV2, hX2]
                have h15 : (a : Int) + (b : Int) + 1 ≤ 15 := by omega
                clear hV hV2 hV3 hX1 hX2 hD hap hcnt hc46
                cases pt
                · obtain rfl := HPT.out rfl
                  go_wp2_with (fail)
                  go_roundg (gk - 1)
                  case measure => have := HG.out; omega
                  case rel => exact ⟨k + 1, j + 1, a + 1, b, A ++ [c], [], X2, T, false, by have := HK.out; show _ = _; omega, by go_num, rfl, rfl, by go_num, by go_num, rfl, rfl, by have := HG.out; show _ = _; omega, by have := HX2.out; rw [List.append_nil] at this ⊢; exact this, HT, by have := HAB.out; exact ⟨by rw [List.length_append]; have := this.1; show _ = _ + 1; omega, this.2⟩, by omega, HM1.out, by show _ = _; rw [HTN.out, HTK.out]; simp, fun _ => rfl, ⟨HA2.out, rfl⟩, rfl⟩
                · obtain ⟨T1, hT1⟩ : ∃ T1, T1 = fw (10 ^ (b + 1)) := ⟨_, rfl⟩
                  have hmT : ∀ W, (binOp .mul 61 (.float .f64 T) (.float .f64 4621819117588971520)).run Tryz.prog W = .ok (.float .f64 T1) W := fun W => by
                    rw [HT.out, hT1, Nat.pow_succ, Nat.min_eq_left (by omega)]
                    have := pow_small (k := b + 1) (by omega)
                    exact mul_ten _ (by rw [Nat.pow_succ] at this; exact this) W
                  have HT2 : Hid (T1 = fw (10 ^ min (b + 1) 15)) := by show _ = _; rw [hT1, Nat.min_eq_left (by omega)]
                  have hb15 : (b : Int) + 1 ≤ 15 := by omega
                  clear hT1
                  go_wp2_with (fail)
                  go_roundg (gk - 1)
                  case measure => have := HG.out; omega
                  case rel => exact ⟨k + 1, j + 1, a, b + 1, A, B ++ [c], X2, T1, true, by have := HK.out; show _ = _; omega, by go_num, rfl, rfl, by go_num, rfl, by go_num, rfl, by have := HG.out; show _ = _; omega, by rw [← List.append_assoc]; exact HX2.out, HT2, by have := HAB.out; exact ⟨this.1, by rw [List.length_append]; have := this.2; show _ = _ + 1; omega⟩, by omega, HM1.out, by show _ = _; rw [HTN.out, HTK.out]; simp, (fun h => by cases h), ⟨HDG.out.1, HB2.out⟩, rfl⟩
              · have HX2 : Hid (X = fw (dval 0 (((A ++ B) ++ [c]).take 15))) := by
                  show _ = _
                  have e : ((A ++ B) ++ [c]).take 15 = (A ++ B).take 15 := List.take_append_of_le_length (by have := HLN.out; omega)
                  rw [HX.out, e]
                have h15 : ¬ (a : Int) + (b : Int) + 1 ≤ 15 := by omega
                clear hV hcnt hc46
                cases pt
                · obtain rfl := HPT.out rfl
                  go_wp2_with (fail)
                  go_roundg (gk - 1)
                  case measure => have := HG.out; omega
                  case rel => exact ⟨k + 1, j + 1, a + 1, b, A ++ [c], [], X, T, false, by have := HK.out; show _ = _; omega, by go_num, rfl, rfl, by go_num, by go_num, rfl, rfl, by have := HG.out; show _ = _; omega, by have := HX2.out; rw [List.append_nil] at this ⊢; exact this, HT, by have := HAB.out; exact ⟨by rw [List.length_append]; have := this.1; show _ = _ + 1; omega, this.2⟩, by omega, HM1.out, by show _ = _; rw [HTN.out, HTK.out]; simp, fun _ => rfl, ⟨HA2.out, rfl⟩, rfl⟩
                · by_cases hb14 : b < 15
                  · obtain ⟨T1, hT1⟩ : ∃ T1, T1 = fw (10 ^ (b + 1)) := ⟨_, rfl⟩
                    have hmT : ∀ W, (binOp .mul 61 (.float .f64 T) (.float .f64 4621819117588971520)).run Tryz.prog W = .ok (.float .f64 T1) W := fun W => by
                      rw [HT.out, hT1, Nat.pow_succ, Nat.min_eq_left (by omega)]
                      have := pow_small (k := b + 1) (by omega)
                      exact mul_ten _ (by rw [Nat.pow_succ] at this; exact this) W
                    have HT2 : Hid (T1 = fw (10 ^ min (b + 1) 15)) := by show _ = _; rw [hT1, Nat.min_eq_left (by omega)]
                    have hb15 : (b : Int) + 1 ≤ 15 := by omega
                    clear hT1 hb14
                    go_wp2_with (fail)
                    go_roundg (gk - 1)
                    case measure => have := HG.out; omega
                    case rel => exact ⟨k + 1, j + 1, a, b + 1, A, B ++ [c], X, T1, true, by have := HK.out; show _ = _; omega, by go_num, rfl, rfl, by go_num, rfl, by go_num, rfl, by have := HG.out; show _ = _; omega, by rw [← List.append_assoc]; exact HX2.out, HT2, by have := HAB.out; exact ⟨this.1, by rw [List.length_append]; have := this.2; show _ = _ + 1; omega⟩, by omega, HM1.out, by show _ = _; rw [HTN.out, HTK.out]; simp, (fun h => by cases h), ⟨HDG.out.1, HB2.out⟩, rfl⟩
                  · have HT2 : Hid (T = fw (10 ^ min (b + 1) 15)) := by show _ = _; rw [HT.out, Nat.min_eq_right (by omega), Nat.min_eq_right (by omega)]
                    have hb15 : ¬ (b : Int) + 1 ≤ 15 := by omega
                    clear hb14
                    go_wp2_with (fail)
                    go_roundg (gk - 1)
                    case measure => have := HG.out; omega
                    case rel => exact ⟨k + 1, j + 1, a, b + 1, A, B ++ [c], X, T, true, by have := HK.out; show _ = _; omega, by go_num, rfl, rfl, by go_num, rfl, by go_num, rfl, by have := HG.out; show _ = _; omega, by rw [← List.append_assoc]; exact HX2.out, HT2, by have := HAB.out; exact ⟨this.1, by rw [List.length_append]; have := this.2; show _ = _ + 1; omega⟩, by omega, HM1.out, by show _ = _; rw [HTN.out, HTK.out]; simp, (fun h => by cases h), ⟨HDG.out.1, HB2.out⟩, rfl⟩
            · have HZ : Hid (Z = (0, 2)) := HBAD.out j c HC.out (by omega) (fun e => by rw [e] at hd; exact absurd hd.symm hc46)
              have h1 : d < 48 ∨ 57 < d := by omega
              clear hdg hc46
              rcases h1 with h1 | h1
              all_goals
                go_wp2
                go_ret2
                rw [HZ.out]
                exact ⟨rfl, rfl⟩
        · have hgk : gk = 0 := by omega
          have g1 : ¬ (k : Int) < (s.size : Int) := by have := HG.out; have := HK.out; have := HRL.out; omega
          have htk : r = A ++ (if pt then 46 :: B else []) := by
            rw [← HTK.out]
            exact (List.take_of_length_le (by have := HG.out; omega)).symm
          have ha0 : (0 : Int) ≤ (a : Int) := by omega
          have hb0 : (0 : Int) ≤ (b : Int) := by omega
          clear hgk hgo
          cases pt
          · have HZ : Hid (Z = (0, 2)) := HNONE.out (by rw [htk]; simpa using HDG.out.1)
            clear htk
            go_wp2
            go_ret2
            rw [HZ.out]
            exact ⟨rfl, rfl⟩
          · have HF := Lib.hid (HFULL.out A B htk HDG.out.1 HDG.out.2)
            clear htk
            by_cases hza : a = 0
            · have HZ : Hid (Z = (0, 2)) := by
                show _ = _
                rw [HF.out, if_pos (.inl (List.length_eq_zero_iff.1 (by have := HAB.out.1; omega)))]
              have q : ((a : Int) == 0) = true := by rw [hza]; rfl
              clear hza HF
              go_wp2
              go_ret2
              rw [HZ.out]
              exact ⟨rfl, rfl⟩
            · have q : ((a : Int) == 0) = false := by rw [beq_eq_false_iff_ne]; omega
              by_cases hzb : b = 0
              · have HZ : Hid (Z = (0, 2)) := by
                  show _ = _
                  rw [HF.out, if_pos (.inr (List.length_eq_zero_iff.1 (by have := HAB.out.2; omega)))]
                have q2 : ((b : Int) == 0) = true := by rw [hzb]; rfl
                clear hza hzb HF
                go_wp2
                go_ret2
                rw [HZ.out]
                exact ⟨rfl, rfl⟩
              · have q2 : ((b : Int) == 0) = false := by rw [beq_eq_false_iff_ne]; omega
                replace HF := Lib.hid (HF.out.trans (if_neg (by rintro (e | e) <;> rw [e] at HAB <;> have := HAB.out <;> simp at this <;> omega)))
                by_cases h15 : 15 < a + b
                · have HZ : Hid (Z = (0, 4)) := HF.out.trans (if_pos (by have := HAB.out; omega))
                  have h15' : (15 : Int) < (a : Int) + (b : Int) := by omega
                  clear hza hzb HF h15
                  go_wp2
                  go_ret2
                  rw [HZ.out]
                  exact ⟨rfl, rfl⟩
                · have HZ : Hid (Z = (signed2 true (quotR (dval 0 (A ++ B)) B.length), 0)) := HF.out.trans (if_neg (by have := HAB.out; omega))
                  have h15' : ¬ (15 : Int) < (a : Int) + (b : Int) := by omega
                  obtain ⟨Q, hQ⟩ : ∃ Q, Q = quotR (dval 0 (A ++ B)) B.length := ⟨_, rfl⟩
                  have hlen : (A ++ B).length ≤ 15 := by rw [List.length_append]; have := HAB.out; omega
                  have hX2 : X = fw (dval 0 (A ++ B)) := by rw [HX.out, List.take_of_length_le hlen]
                  have hT2 : T = fw (10 ^ B.length) := by rw [HT.out, Nat.min_eq_left (by omega), HAB.out.2]
                  have hqf := quotR_facts (m := dval 0 (A ++ B)) (k := B.length) (by have := dval15 (A ++ B) (by rw [List.all_append, HDG.out.1, HDG.out.2]; rfl) hlen; omega) (by have := HAB.out; omega)
                  have hq : ∀ W, (binOp .quo 61 (.float .f64 X) (.float .f64 T)).run Tryz.prog W = .ok (.float .f64 Q) W := fun W => by
                    rw [hX2, hT2, hQ]
                    exact run_float_arith W .quo _ .f64 _ _ _ hqf.2.1
                  have HO := Lib.hid (refOf_any Q (by rw [hQ]; exact (inf_not_nan hqf.1).1))
                  have HQL : Hid (Q ≤ 9218868437227405312) := by rw [hQ]; exact hqf.1
                  rw [← hQ] at HZ
                  clear hza hzb HF h15 hqf hX2 hT2 hlen hQ
                  go_wp2_with (go_at_call 26; refine (HO.out _).mono ?_; rintro e w6 ⟨rfl, rfl⟩)
                  go_ret2
                  rw [HZ.out]
                  exact ⟨ret_u2 (by first | rfl | (show bits .xor .u64 (Q : Int) 9223372036854775808 = _; rw [bxor63 Q (by have := HQL.out; omega)]; unfold turned signed2; rw [if_pos (by have := HQL.out; omega), if_pos rfl, Nat.add_comm])), rfl⟩
    · go_enter Tryz.func17, Tryz.ntmps17
      go_wp2
      have HL : Hid (∀ k j0 : Nat, k = j0 → FlLoop r j0 w r.length (.int .i64 (k : Int)) (.float .f64 0) (.float .f64 4607182418800017408) (.int .i64 0) (.int .i64 0) (.int .i64 0) (.bool false) w) := fun k j0 hk =>
        ⟨k, 0, 0, 0, [], [], 0, 4607182418800017408, false, by show _ = _; omega, rfl, rfl, rfl, rfl, rfl, rfl, rfl, Nat.zero_add _, fw_zero.symm, fw_one.symm, ⟨rfl, rfl⟩, Nat.zero_le _, Nat.zero_le _, rfl, fun _ => rfl, ⟨rfl, rfl⟩, rfl⟩
      go_loopg [5, 6, 7, 8, 9, 10, 11] r.length (fun gk s5 s6 s7 s8 s9 s10 s11 wr => FlLoop r 0 w gk s5 s6 s7 s8 s9 s10 s11 wr)
      case atStart => exact HL.out _ _ rfl
      case round =>
        clear HL
        obtain ⟨k, j, a, b, A, B, X, T, pt, HK, rfl, rfl, rfl, rfl, rfl, rfl, rfl, HG, HX, HT, HAB, hab, hj2, HTK, HPT, HDG, rfl⟩ := hrel
        by_cases hgo : 0 < gk
        · have hjl : j < r.length := by have := HG.out; omega
          obtain ⟨c, hc⟩ : ∃ c, r[j]? = some c := ⟨_, List.getElem?_eq_getElem hjl⟩
          have hks : k < s.size := by have := HK.out; have := HRL.out; omega
          have hsc : s[k]'hks = c := by
            have e := HK.out
            have := HRC.out j (by omega) c hc
            simpa only [e] using this
          obtain ⟨d, hd⟩ : ∃ d : Int, (c.toNat : Int) = d := ⟨_, rfl⟩
          have g1 : (k : Int) < (s.size : Int) := by omega
          have HC := Lib.hid hc
          have HTN : Hid (r.take (j + 1) = r.take j ++ [c]) := by
            show _ = _
            rw [List.take_add_one, hc]
            rfl
          have HD : Hid ((c.toNat : Int) = d) := hd
          have HM1 : Hid (j + 1 ≤ 2000) := by have := HG.out; have := HRL.out; show _ ≤ _; omega
          clear hc hjl
          by_cases hc46 : d = 46
          · have HC46 : Hid (c = 46) := UInt8.toNat_inj.1 (by show c.toNat = 46; omega)
            cases pt
            · obtain rfl := HPT.out rfl
              subst hc46
              go_wp2
              go_roundg (gk - 1)
              case measure => have := HG.out; omega
              case rel => exact ⟨k + 1, j + 1, a, b, A, [], X, T, true, by have := HK.out; show _ = _; omega, by go_num, rfl, rfl, rfl, rfl, rfl, rfl, by have := HG.out; show _ = _; omega, HX, HT, HAB, by omega, HM1.out, by show _ = _; rw [HTN.out, HTK.out, HC46.out]; simp, (fun h => by cases h), HDG, rfl⟩
            · have HZ : Hid (Z = (0, 2)) := HBAD.out j c HC.out (by rw [HC46.out]; decide) (fun _ => ⟨A, B, HTK.out⟩)
              subst hc46
              go_wp2
              go_ret2
              rw [HZ.out]
              exact ⟨rfl, rfl⟩
          · have hne : (d == 46) = false := beq_eq_false_iff_ne.2 hc46
            by_cases hdg : 48 ≤ d ∧ d ≤ 57
            · obtain ⟨d1, d2⟩ := hdg
              have HCD : Hid (isDig c = true) := isDig_iff.2 (by omega)
              have HA2 : Hid ((A ++ [c]).all isDig = true) := by show _ = _; rw [List.all_append, HDG.out.1]; simpa using HCD.out
              have HB2 : Hid ((B ++ [c]).all isDig = true) := by show _ = _; rw [List.all_append, HDG.out.2]; simpa using HCD.out
              have HAC : Hid ((A ++ B).all isDig = true) := by show _ = _; rw [List.all_append, HDG.out.1, HDG.out.2]; rfl
              have HLN : Hid ((A ++ B).length = a + b) := by show _ = _; rw [List.length_append, HAB.out.1, HAB.out.2]
              obtain ⟨V, hV⟩ : ∃ V, V = dval 0 ((A ++ B).take 15) := ⟨_, rfl⟩
              by_cases hcnt : a + b < 15
              · have hap : ((A ++ B) ++ [c]).length = a + b + 1 := by rw [List.length_append, HLN.out]; rfl
                have hV2 : dval 0 (((A ++ B) ++ [c]).take 15) = V * 10 + (c.toNat - 48) := by
                  rw [List.take_of_length_le (by omega), dval_app, hV, List.take_of_length_le (by have := HLN.out; omega)]
                  rfl
                have hV3 : V * 10 + (c.toNat - 48) < 9007199254740992 := by
                  rw [← hV2, List.take_of_length_le (by omega)]
                  have := dval15 ((A ++ B) ++ [c]) (by rw [List.all_append, HAC.out]; simpa using HCD.out) (by omega)
                  omega
                obtain ⟨X1, hX1⟩ : ∃ X1, X1 = fw (V * 10) := ⟨_, rfl⟩
                obtain ⟨D, hD⟩ : ∃ D, D = fw (c.toNat - 48) := ⟨_, rfl⟩
                obtain ⟨X2, hX2⟩ : ∃ X2, X2 = fw (V * 10 + (c.toNat - 48)) := ⟨_, rfl⟩
                have hm : ∀ W, (binOp .mul 61 (.float .f64 X) (.float .f64 4621819117588971520)).run Tryz.prog W = .ok (.float .f64 X1) W := fun W => by
                  rw [HX.out, ← hV, hX1]
                  exact mul_ten _ (by omega) W
                have hcv : ∀ W, (convert 5 61 (.int .u8 (d - 48))).run Tryz.prog W = .ok (.float .f64 D) W := fun W => by
                  have e : d - 48 = ((c.toNat - 48 : Nat) : Int) := by omega
                  rw [e, hD]
                  exact run_convert_int_float (w := W) 5 61 .u8 .f64 _ (by kernel_rfl) Tryz.underlying61
                have hadd : ∀ W, (binOp .add 61 (.float .f64 X1) (.float .f64 D)).run Tryz.prog W = .ok (.float .f64 X2) W := fun W => by
                  rw [hX1, hD, hX2]
                  exact add_fw _ hV3 W
                have HX2 : Hid (X2 = fw (dval 0 (((A ++ B) ++ [c]).take 15))) := by show _ = _; rw [hV2, hX2]
                have h15 : (a : Int) + (b : Int) + 1 ≤ 15 := by omega
                clear hV hV2 hV3 hX1 hX2 hD hap hcnt hc46
                cases pt
                · obtain rfl := HPT.out rfl
                  go_wp2_with (fail)
                  go_roundg (gk - 1)
                  case measure => have := HG.out; omega
                  case rel => exact ⟨k + 1, j + 1, a + 1, b, A ++ [c], [], X2, T, false, by have := HK.out; show _ = _; omega, by go_num, rfl, rfl, by go_num, by go_num, rfl, rfl, by have := HG.out; show _ = _; omega, by have := HX2.out; rw [List.append_nil] at this ⊢; exact this, HT, by have := HAB.out; exact ⟨by rw [List.length_append]; have := this.1; show _ = _ + 1; omega, this.2⟩, by omega, HM1.out, by show _ = _; rw [HTN.out, HTK.out]; simp, fun _ => rfl, ⟨HA2.out, rfl⟩, rfl⟩
                · obtain ⟨T1, hT1⟩ : ∃ T1, T1 = fw (10 ^ (b + 1)) := ⟨_, rfl⟩
                  have hmT : ∀ W, (binOp .mul 61 (.float .f64 T) (.float .f64 4621819117588971520)).run Tryz.prog W = .ok (.float .f64 T1) W := fun W => by
                    rw [HT.out, hT1, Nat.pow_succ, Nat.min_eq_left (by omega)]
                    have := pow_small (k := b + 1) (by omega)
                    exact mul_ten _ (by rw [Nat.pow_succ] at this; exact this) W
                  have HT2 : Hid (T1 = fw (10 ^ min (b + 1) 15)) := by show _ = _; rw [hT1, Nat.min_eq_left (by omega)]
                  have hb15 : (b : Int) + 1 ≤ 15 := by omega
                  clear hT1
                  go_wp2_with (fail)
                  go_roundg (gk - 1)
                  case measure => have := HG.out; omega
                  case rel => exact ⟨k + 1, j + 1, a, b + 1, A, B ++ [c], X2, T1, true, by have := HK.out; show _ = _; omega, by go_num, rfl, rfl, by go_num, rfl, by go_num, rfl, by have := HG.out; show _ = _; omega, by rw [← List.append_assoc]; exact HX2.out, HT2, by have := HAB.out; exact ⟨this.1, by rw [List.length_append]; have := this.2; show _ = _ + 1; omega⟩, by omega, HM1.out, by show _ = _; rw [HTN.out, HTK.out]; simp, (fun h => by cases h), ⟨HDG.out.1, HB2.out⟩, rfl⟩
              · have HX2 : Hid (X = fw (dval 0 (((A ++ B) ++ [c]).take 15))) := by
                  show _ = _
                  have e : ((A ++ B) ++ [c]).take 15 = (A ++ B).take 15 := List.take_append_of_le_length (by have := HLN.out; omega)
                  rw [HX.out, e]
                have h15 : ¬ (a : Int) + (b : Int) + 1 ≤ 15 := by omega
                clear hV hcnt hc46
                cases pt
                · obtain rfl := HPT.out rfl
                  go_wp2_with (fail)
                  go_roundg (gk - 1)
                  case measure => have := HG.out; omega
                  case rel => exact ⟨k + 1, j + 1, a + 1, b, A ++ [c], [], X, T, false, by have := HK.out; show _ = _; omega, by go_num, rfl, rfl, by go_num, by go_num, rfl, rfl, by have := HG.out; show _ = _; omega, by have := HX2.out; rw [List.append_nil] at this ⊢; exact this, HT, by have := HAB.out; exact ⟨by rw [List.length_append]; have := this.1; show _ = _ + 1; omega, this.2⟩, by omega, HM1.out, by show _ = _; rw [HTN.out, HTK.out]; simp, fun _ => rfl, ⟨HA2.out, rfl⟩, rfl⟩
                · by_cases hb14 : b < 15
                  · obtain ⟨T1, hT1⟩ : ∃ T1, T1 = fw (10 ^ (b + 1)) := ⟨_, rfl⟩
                    have hmT : ∀ W, (binOp .mul 61 (.float .f64 T) (.float .f64 4621819117588971520)).run Tryz.prog W = .ok (.float .f64 T1) W := fun W => by
                      rw [HT.out, hT1, Nat.pow_succ, Nat.min_eq_left (by omega)]
                      have := pow_small (k := b + 1) (by omega)
                      exact mul_ten _ (by rw [Nat.pow_succ] at this; exact this) W
                    have HT2 : Hid (T1 = fw (10 ^ min (b + 1) 15)) := by show _ = _; rw [hT1, Nat.min_eq_left (by omega)]
                    have hb15 : (b : Int) + 1 ≤ 15 := by omega
                    clear hT1 hb14
                    go_wp2_with (fail)
                    go_roundg (gk - 1)
                    case measure => have := HG.out; omega
                    case rel => exact ⟨k + 1, j + 1, a, b + 1, A, B ++ [c], X, T1, true, by have := HK.out; show _ = _; omega, by go_num, rfl, rfl, by go_num, rfl, by go_num, rfl, by have := HG.out; show _ = _; omega, by rw [← List.append_assoc]; exact HX2.out, HT2, by have := HAB.out; exact ⟨this.1, by rw [List.length_append]; have := this.2; show _ = _ + 1; omega⟩, by omega, HM1.out, by show _ = _; rw [HTN.out, HTK.out]; simp, (fun h => by cases h), ⟨HDG.out.1, HB2.out⟩, rfl⟩
                  · have HT2 : Hid (T = fw (10 ^ min (b + 1) 15)) := by show _ = _; rw [HT.out, Nat.min_eq_right (by omega), Nat.min_eq_right (by omega)]
                    have hb15 : ¬ (b : Int) + 1 ≤ 15 := by omega
                    clear hb14
                    go_wp2_with (fail)
                    go_roundg (gk - 1)
                    case measure => have := HG.out; omega
                    case rel => exact ⟨k + 1, j + 1, a, b + 1, A, B ++ [c], X, T, true, by have := HK.out; show _ = _; omega, by go_num, rfl, rfl, by go_num, rfl, by go_num, rfl, by have := HG.out; show _ = _; omega, by rw [← List.append_assoc]; exact HX2.out, HT2, by have := HAB.out; exact ⟨this.1, by rw [List.length_append]; have := this.2; show _ = _ + 1; omega⟩, by omega, HM1.out, by show _ = _; rw [HTN.out, HTK.out]; simp, (fun h => by cases h), ⟨HDG.out.1, HB2.out⟩, rfl⟩
            · have HZ : Hid (Z = (0, 2)) := HBAD.out j c HC.out (by omega) (fun e => by rw [e] at hd; exact absurd hd.symm hc46)
              have h1 : d < 48 ∨ 57 < d := by omega
              clear hdg hc46
              rcases h1 with h1 | h1
              all_goals
                go_wp2
                go_ret2
                rw [HZ.out]
                exact ⟨rfl, rfl⟩
        · have hgk : gk = 0 := by omega
          have g1 : ¬ (k : Int) < (s.size : Int) := by have := HG.out; have := HK.out; have := HRL.out; omega
          have htk : r = A ++ (if pt then 46 :: B else []) := by
            rw [← HTK.out]
            exact (List.take_of_length_le (by have := HG.out; omega)).symm
          have ha0 : (0 : Int) ≤ (a : Int) := by omega
          have hb0 : (0 : Int) ≤ (b : Int) := by omega
          clear hgk hgo
          cases pt
          · have HZ : Hid (Z = (0, 2)) := HNONE.out (by rw [htk]; simpa using HDG.out.1)
            clear htk
            go_wp2
            go_ret2
            rw [HZ.out]
            exact ⟨rfl, rfl⟩
          · have HF := Lib.hid (HFULL.out A B htk HDG.out.1 HDG.out.2)
            clear htk
            by_cases hza : a = 0
            · have HZ : Hid (Z = (0, 2)) := by
                show _ = _
                rw [HF.out, if_pos (.inl (List.length_eq_zero_iff.1 (by have := HAB.out.1; omega)))]
              have q : ((a : Int) == 0) = true := by rw [hza]; rfl
              clear hza HF
              go_wp2
              go_ret2
              rw [HZ.out]
              exact ⟨rfl, rfl⟩
            · have q : ((a : Int) == 0) = false := by rw [beq_eq_false_iff_ne]; omega
              by_cases hzb : b = 0
              · have HZ : Hid (Z = (0, 2)) := by
                  show _ = _
                  rw [HF.out, if_pos (.inr (List.length_eq_zero_iff.1 (by have := HAB.out.2; omega)))]
                have q2 : ((b : Int) == 0) = true := by rw [hzb]; rfl
                clear hza hzb HF
                go_wp2
                go_ret2
                rw [HZ.out]
                exact ⟨rfl, rfl⟩
              · have q2 : ((b : Int) == 0) = false := by rw [beq_eq_false_iff_ne]; omega
                replace HF := Lib.hid (HF.out.trans (if_neg (by rintro (e | e) <;> rw [e] at HAB <;> have := HAB.out <;> simp at this <;> omega)))
                by_cases h15 : 15 < a + b
                · have HZ : Hid (Z = (0, 4)) := HF.out.trans (if_pos (by have := HAB.out; omega))
                  have h15' : (15 : Int) < (a : Int) + (b : Int) := by omega
                  clear hza hzb HF h15
                  go_wp2
                  go_ret2
                  rw [HZ.out]
                  exact ⟨rfl, rfl⟩
                · have HZ : Hid (Z = (signed2 false (quotR (dval 0 (A ++ B)) B.length), 0)) := HF.out.trans (if_neg (by have := HAB.out; omega))
                  have h15' : ¬ (15 : Int) < (a : Int) + (b : Int) := by omega
                  obtain ⟨Q, hQ⟩ : ∃ Q, Q = quotR (dval 0 (A ++ B)) B.length := ⟨_, rfl⟩
                  have hlen : (A ++ B).length ≤ 15 := by rw [List.length_append]; have := HAB.out; omega
                  have hX2 : X = fw (dval 0 (A ++ B)) := by rw [HX.out, List.take_of_length_le hlen]
                  have hT2 : T = fw (10 ^ B.length) := by rw [HT.out, Nat.min_eq_left (by omega), HAB.out.2]
                  have hqf := quotR_facts (m := dval 0 (A ++ B)) (k := B.length) (by have := dval15 (A ++ B) (by rw [List.all_append, HDG.out.1, HDG.out.2]; rfl) hlen; omega) (by have := HAB.out; omega)
                  have hq : ∀ W, (binOp .quo 61 (.float .f64 X) (.float .f64 T)).run Tryz.prog W = .ok (.float .f64 Q) W := fun W => by
                    rw [hX2, hT2, hQ]
                    exact run_float_arith W .quo _ .f64 _ _ _ hqf.2.1
                  have HO := Lib.hid (refOf_any Q (by rw [hQ]; exact (inf_not_nan hqf.1).1))
                  have HQL : Hid (Q ≤ 9218868437227405312) := by rw [hQ]; exact hqf.1
                  rw [← hQ] at HZ
                  clear hza hzb HF h15 hqf hX2 hT2 hlen hQ
                  go_wp2_with (go_at_call 26; refine (HO.out _).mono ?_; rintro e w6 ⟨rfl, rfl⟩)
                  go_ret2
                  rw [HZ.out]
                  exact ⟨ret_u2 (by first | rfl | (show bits .xor .u64 (Q : Int) 9223372036854775808 = _; rw [bxor63 Q (by have := HQL.out; omega)]; unfold turned signed2; rw [if_pos (by have := HQL.out; omega), if_pos rfl, Nat.add_comm])), rfl⟩
end Go.Proofs.YtlailomhgipppaaGreatDoor
