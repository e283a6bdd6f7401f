/- readFloat at digits with a point. -/
import Derived.Test.YtlailomhgipppaaGreatDoorDgt
import Derived.WalkMore
namespace Go.Proofs.YtlailomhgipppaaGreatDoor
open Go.RowKit
set_option linter.unusedVariables false
set_option linter.unusedSimpArgs false

def dgs (L : List UInt8) (j : Nat) : List UInt8 := (L.take j).filter (· != 46)
theorem dgs_step {L : List UInt8} {j : Nat} {c : UInt8} (h : L[j]? = some c) (hc : c ≠ 46) : dgs L (j + 1) = dgs L j ++ [c] := by
  unfold dgs
  rw [List.take_add_one, h, List.filter_append]
  simp [hc]
theorem dgs_dot {L : List UInt8} {j : Nat} (h : L[j]? = some 46) : dgs L (j + 1) = dgs L j := by
  unfold dgs
  rw [List.take_add_one, h, List.filter_append]
  simp
theorem dig_ne {c : UInt8} (h : 48 ≤ c.toNat ∧ c.toNat ≤ 57) : c ≠ 46 := by rintro rfl; exact absurd h.1 (by decide)
theorem filter_digs {A : List UInt8} (h : A.all isDig = true) : A.filter (· != 46) = A := by
  rw [List.filter_eq_self]
  intro c hc
  simpa using dig_ne (isDig_iff.1 (List.all_eq_true.1 h c hc))
theorem dgs_full {A B : List UInt8} (hA : A.all isDig = true) (hB : B.all isDig = true) : dgs (A ++ 46 :: B) (A ++ 46 :: B).length = A ++ B := by
  unfold dgs
  rw [List.take_length, List.filter_append, filter_digs hA]
  congr 1
  rw [List.filter_cons_of_neg (by simp), filter_digs hB]
theorem dgs_len {A B : List UInt8} (hA : A.all isDig = true) (hB : B.all isDig = true) (j : Nat) : (dgs (A ++ 46 :: B) j).length ≤ A.length + B.length := by
  have h := dgs_full hA hB
  unfold dgs at h ⊢
  rw [List.take_length] at h
  have : ((A ++ 46 :: B).take j).filter (· != 46) |>.Sublist ((A ++ 46 :: B).filter (· != 46)) := List.Sublist.filter _ (List.take_sublist _ _)
  have := this.length_le
  rw [h, List.length_append] at this
  exact this
theorem point_at {A B : List UInt8} {j : Nat} {c : UInt8} (hA : A.all isDig = true) (hB : B.all isDig = true) (h : (A ++ 46 :: B)[j]? = some c) : (j = A.length ∧ c = 46) ∨ (j ≠ A.length ∧ 48 ≤ c.toNat ∧ c.toNat ≤ 57) := by
  rcases Nat.lt_trichotomy j A.length with e | e | e
  · rw [List.getElem?_append_left e] at h
    exact .inr ⟨by omega, isDig_iff.1 (List.all_eq_true.1 hA c (List.mem_of_getElem? h))⟩
  · rw [List.getElem?_append_right (by omega), e, Nat.sub_self] at h
    cases h
    exact .inl ⟨e, rfl⟩
  · rw [List.getElem?_append_right (by omega)] at h
    obtain ⟨k, hk⟩ : ∃ k, j - A.length = k + 1 := ⟨j - A.length - 1, by omega⟩
    rw [hk, List.getElem?_cons_succ] at h
    exact .inr ⟨by omega, isDig_iff.1 (List.all_eq_true.1 hB c (List.mem_of_getElem? h))⟩
theorem dval_lt (l : List UInt8) : ∀ acc, l.all isDig = true → dval acc l < (acc + 1) * 10 ^ l.length := by
  induction l with
  | nil => intro acc _; rw [dval_nil]; simp
  | cons c r ih =>
    intro acc h
    rw [List.all_cons, Bool.and_eq_true, isDig_iff] at h
    rw [dval_cons, List.length_cons, Nat.pow_succ]
    refine Nat.lt_of_lt_of_le (ih _ h.2) ?_
    rw [Nat.mul_comm (10 ^ r.length) 10, ← Nat.mul_assoc]
    exact Nat.mul_le_mul_right _ (by omega)
theorem dgs_digs {A B : List UInt8} (hA : A.all isDig = true) (hB : B.all isDig = true) (j : Nat) : (dgs (A ++ 46 :: B) j).all isDig = true := by
  rw [List.all_eq_true]
  intro c hc
  unfold dgs at hc
  rw [List.mem_filter] at hc
  obtain ⟨i, hi⟩ := List.getElem?_of_mem (List.mem_of_mem_take hc.1)
  rcases point_at hA hB hi with ⟨_, e⟩ | ⟨_, e⟩
  · rw [e] at hc; simp at hc
  · exact isDig_iff.2 e
def RFLoop (L : List UInt8) (nA j0 : Nat) (W : World) (gk : Nat) (s2 s5 s7 s9 s13 s14 s15 s16 s17 : Value) (wr : World) : Prop :=
  ∃ (k j m : Nat) (a dp : Int) (sd sg : Bool), Hid (k = j + j0) ∧ s7 = .int .i64 (k : Int) ∧ s2 = .int .u64 a ∧ s5 = .bool false ∧ s9 = .bool false ∧ s13 = .bool sd ∧ s14 = .bool sg ∧ s15 = .int .i64 (m : Int) ∧ s16 = .int .i64 (m : Int) ∧ s17 = .int .i64 dp ∧
    Hid (j + gk = L.length) ∧ Hid (a = (dval 0 (dgs L j) : Int)) ∧ Hid ((m = 0 ↔ a = 0) ∧ m ≤ (dgs L j).length) ∧ Hid (sd = decide (nA < j)) ∧ Hid (sg = decide (0 < j)) ∧ Hid (nA < j → dp = (m : Int) - ((j : Int) - (nA : Int) - 1)) ∧ (-(j : Int) ≤ dp ∧ dp ≤ 16 ∧ j ≤ 17) ∧ wr = W
theorem low_or {x : Int} (h1 : 46 ≤ x) (h2 : x ≤ 57) (h3 : x ≠ 47) : bits .or .u8 x 32 ≠ 120 := by
  have : x = 46 ∨ x = 48 ∨ x = 49 ∨ x = 50 ∨ x = 51 ∨ x = 52 ∨ x = 53 ∨ x = 54 ∨ x = 55 ∨ x = 56 ∨ x = 57 := by omega
  rcases this with rfl | rfl | rfl | rfl | rfl | rfl | rfl | rfl | rfl | rfl | rfl <;> decide
set_option maxRecDepth 100000 in
theorem lower_any (c : Int) (w : World) : Calls Tryz.prog 67 #[.int .u8 c] w fun e w' => e = .returned (.int .u8 (bits .or .u8 c 32)) ∧ w' = w := by
  go_enter Tryz.func67, Tryz.ntmps67
  go_wp2
  go_ret
  exact ⟨rfl, rfl⟩
theorem results_tmp7 {fn : Func} {a b c d e f g : Tmp} (h : fn.results = #[.tmp a, .tmp b, .tmp c, .tmp d, .tmp e, .tmp f, .tmp g]) (tmps : Array Value) (P : Program) (w : World) :
    (results fn tmps).run P w = .ok (.tuple #[tmps.getD a undef, tmps.getD b undef, tmps.getD c undef, tmps.getD d undef, tmps.getD e undef, tmps.getD f undef, tmps.getD g undef]) w := by
  simp [results, h]
theorem ret7 {a a' e e' : Int} {n : Bool} {k k' : Int} (h1 : a = a') (h2 : e = e') (h3 : k = k') : Ending.returned (.tuple #[.int .u64 a, .int .i64 e, .bool n, .bool false, .bool false, .int .i64 k, .bool true]) = .returned (.tuple #[.int .u64 a', .int .i64 e', .bool n, .bool false, .bool false, .int .i64 k', .bool true]) := by rw [h1, h2, h3]
set_option maxRecDepth 100000 in
set_option maxHeartbeats 12800000 in
theorem readFloat_any (s : ByteArray) (neg : Bool) (A B : List UInt8) (hl : s.data.toList = (if neg then [45] else []) ++ (A ++ 46 :: B)) (hA : A.all isDig = true) (hB : B.all isDig = true) (hA0 : A ≠ []) (hB0 : B ≠ []) (hlen : A.length + B.length ≤ 15) (w : World) :
    Calls Tryz.prog 83 #[.string s] w fun e w' => e = .returned (.tuple #[.int .u64 (dval 0 (A ++ B) : Int), .int .i64 (if dval 0 (A ++ B) = 0 then 0 else -(B.length : Int)), .bool neg, .bool false, .bool false, .int .i64 (s.size : Int), .bool true]) ∧ w' = w := by
  obtain ⟨X, hX⟩ : ∃ X : Int, X = (if dval 0 (A ++ B) = 0 then 0 else -(B.length : Int)) := ⟨_, rfl⟩
  obtain ⟨V, hV⟩ : ∃ V : Int, V = (dval 0 (A ++ B) : Int) := ⟨_, rfl⟩
  obtain ⟨Z, hZ⟩ : ∃ Z : Int, Z = (s.size : Int) := ⟨_, rfl⟩
  rw [← hX, ← hV, ← hZ]
  have HX := Lib.hid hX
  have HVV := Lib.hid hV
  have HZ := Lib.hid hZ
  clear hX hV hZ
  obtain ⟨j0, hj0⟩ : ∃ j0 : Nat, j0 = (if neg then 1 else 0) := ⟨_, rfl⟩
  obtain ⟨L, hL⟩ : ∃ L, L = A ++ 46 :: B := ⟨_, rfl⟩
  have hsz : s.size = L.length + j0 := by
    rw [Lib.size_eq, hl, ← hL, hj0]
    cases neg <;> simp <;> omega
  have hat : ∀ (j : Nat) (hj : j + j0 < s.size) (c : UInt8), L[j]? = some c → s[j + j0]'hj = c := fun j hj c hc => by
    have := Lib.getD_at s (j + j0) hj
    rw [hl, ← hL, List.getD_eq_getElem?_getD] at this
    have e : ((if neg then [45] else []) ++ L)[j + j0]? = some c := by
      rw [hj0]
      cases neg
      · simpa using hc
      · simpa using hc
    rw [e] at this
    exact this
  have hnA : 0 < A.length := List.length_pos_iff.2 hA0
  have hnB : 0 < B.length := List.length_pos_iff.2 hB0
  have hLl : L.length = A.length + B.length + 1 := by rw [hL]; simp; omega
  have HLL := Lib.hid hLl
  have HSZ := Lib.hid hsz
  have HAT := Lib.hid hat
  have HL0 := Lib.hid hL
  have HA := Lib.hid hA
  have HB := Lib.hid hB
  have HLEN := Lib.hid hlen
  obtain ⟨c0, hc0⟩ : ∃ c0, L[0]? = some c0 := ⟨_, List.getElem?_eq_getElem (by omega)⟩
  have hd0 : 48 ≤ c0.toNat ∧ c0.toNat ≤ 57 := by
    rw [hL] at hc0
    rcases point_at hA hB hc0 with ⟨e, _⟩ | ⟨_, e⟩
    · omega
    · exact e
  obtain ⟨c1, hc1⟩ : ∃ c1, L[1]? = some c1 := ⟨_, List.getElem?_eq_getElem (by omega)⟩
  have hd1 : 46 ≤ c1.toNat ∧ c1.toNat ≤ 57 ∧ c1.toNat ≠ 47 := by
    rw [hL] at hc1
    rcases point_at hA hB hc1 with ⟨_, e⟩ | ⟨_, e⟩
    · rw [e]; decide
    · omega
  have hlw : ¬ bits .or .u8 (c1.toNat : Int) 32 = 120 := low_or (by omega) (by omega) (by omega)
  have hs3 : (3 : Int) ≤ (s.size : Int) := by omega
  have hs18 : (s.size : Int) ≤ 18 := by have := hlen; cases neg <;> simp at hj0 <;> omega
  obtain ⟨d, hd, hdn⟩ : ∃ d : Int, ((s[0]'(by omega)).toNat : Int) = d ∧ (neg = true ∧ d = 45 ∧ j0 = 1 ∨ neg = false ∧ (d == 43) = false ∧ (d == 45) = false ∧ j0 = 0) := by
    refine ⟨_, rfl, ?_⟩
    cases neg with
    | true =>
      have e := Lib.getD_at s 0 (by omega)
      rw [hl] at e
      rw [e]
      exact .inl ⟨rfl, rfl, by simpa using hj0⟩
    | false =>
      have hj : j0 = 0 := by simpa using hj0
      subst hj
      rw [hat 0 (by omega) c0 hc0]
      exact .inr ⟨rfl, by rw [beq_eq_false_iff_ne]; omega, by rw [beq_eq_false_iff_ne]; omega, rfl⟩
  have hsj : ∀ k : Nat, k = j0 → ∀ hk : k < s.size, s[k]'hk = c0 := fun k e hk => by subst e; simpa using hat 0 (by omega) c0 hc0
  have hsj1 : ∀ k : Nat, k = j0 + 1 → ∀ hk : k < s.size, s[k]'hk = c1 := fun k e hk => by subst e; have := hat 1 (by omega) c1 hc1; simpa [Nat.add_comm] using this
  have HSJ := Lib.hid hsj
  have HSJ1 := Lib.hid hsj1
  have HD0 := Lib.hid hd0
  have hj1 : j0 ≤ 1 := by rw [hj0]; cases neg <;> simp
  obtain ⟨nA, hnAe⟩ : ∃ n, n = A.length := ⟨_, rfl⟩
  have HNA := Lib.hid hnAe
  have HNP : Hid (0 < nA) := by show _ < _; omega
  clear hsj hsj1 hd0 hd1 hc0 hc1 hj0 hat hL hLl hsz hnA hnB hl hA hB hA0 hB0 hlen hnAe
  go_enter Tryz.func83, Tryz.ntmps83
  have HLW := Lib.hid hlw
  clear hlw
  have hne : ¬ s = ByteArray.empty := fun e => by
    have e2 : s.size = 0 := by rw [e]; rfl
    omega
  have hde : decide (s = ByteArray.empty) = false := decide_eq_false hne
  have HK0 : Hid (0 < s.size) := by show _ < _; omega
  have HK1 : Hid (1 < s.size) := by show _ < _; omega
  have HK2 : Hid (2 < s.size) := by show _ < _; omega
  clear hne
  rcases hdn with ⟨rfl, rfl, hj⟩ | ⟨rfl, h1, h2, hj⟩
  all_goals
    go_wp2
    go_step3
    go_upto_region 9 with fail
    (try clear h1 h2)
    clear hd
    have HJ := Lib.hid hj
    obtain ⟨e0, he0, hx0⟩ : ∃ e0 : Int, (c0.toNat : Int) = e0 ∧ 48 ≤ e0 := ⟨_, rfl, by have := HD0.out; omega⟩
    obtain ⟨e1, he1⟩ : ∃ e1 : Int, (c1.toNat : Int) = e1 := ⟨_, rfl⟩
    have hw : (bits .or .u8 e1 32 == 120) = false := by rw [beq_eq_false_iff_ne, ← he1]; exact HLW.out
    have q1 := HSJ1.out 1
    have q2 := HSJ1.out 2
    have p0 := HSJ.out 0
    have p1 := HSJ.out 1
    rw [hj] at q1 q2 p0 p1
    first | (have q0 := p0 rfl HK0.out) | (have q0 := p1 rfl HK1.out)
    first | (have q := q1 rfl HK1.out) | (have q := q2 rfl HK2.out)
    clear q1 q2 p0 p1 hj
    go_upto_region 12 with fail
    go_cut [54] (fun s54 wz => s54 = .bool false ∧ w = wz)
    case first =>
      go_wp2_with (go_at_call 67; refine (lower_any _ _).mono ?_; rintro e w' ⟨rfl, rfl⟩)
      all_goals go_meet
      all_goals exact ⟨by first | rfl | (simp; done), rfl⟩
    case rest =>
      obtain ⟨rfl, hwz⟩ := hcut
      subst hwz
      clear q0 q hw he0 he1 hx0
      have HL : Hid (RFLoop L nA j0 w L.length (.int .u64 0) (.bool false) (.int .i64 j0) (.bool false) (.bool false) (.bool false) (.int .i64 0) (.int .i64 0) (.int .i64 0) w) := ⟨j0, 0, 0, 0, 0, false, false, (Nat.zero_add _).symm, rfl, rfl, rfl, rfl, rfl, rfl, rfl, rfl, rfl, Nat.zero_add _, rfl, ⟨by simp, Nat.zero_le _⟩, (decide_eq_false (by have := HNP.out; omega)).symm, rfl, fun h => absurd h (Nat.not_lt_zero _), ⟨by omega, by omega, by omega⟩, rfl⟩
      go_wp2
      go_step3
      go_wp2
      go_loopg [2, 5, 7, 9, 13, 14, 15, 16, 17] L.length (fun gk s2 s5 s7 s9 s13 s14 s15 s16 s17 wr => RFLoop L nA j0 w gk s2 s5 s7 s9 s13 s14 s15 s16 s17 wr)
      case atStart =>
        have e := HL.out
        have hjz := HJ.out
        rw [hjz] at e ⊢
        exact e
      case round =>
        clear HL
        obtain ⟨k, j, m, a, dp, sd, sg, HK, rfl, rfl, rfl, rfl, rfl, rfl, rfl, rfl, rfl, HG, HV, HM, HSD, HSG, HDP, hdp, rfl⟩ := hrel
        obtain ⟨hdp1, hdp2, hj17⟩ := hdp
        have m0 : (0 : Int) ≤ (m : Int) := by omega
        have hmd : m ≤ 15 := by
          have h1 := HM.out.2
          have h2 := dgs_len HA.out HB.out j
          rw [← HL0.out] at h2
          have := HLEN.out
          omega
        have ha1 : a < 1000000000000000 := by
          have h1 := dval_lt (dgs L j) 0 (by rw [HL0.out]; exact dgs_digs HA.out HB.out j)
          have h2 := dgs_len HA.out HB.out j
          rw [← HL0.out] at h2
          have h3 : 10 ^ (dgs L j).length ≤ 10 ^ 15 := Nat.pow_le_pow_right (by omega) (by have := HLEN.out; omega)
          have h4 : (10 : Nat) ^ 15 = 1000000000000000 := by decide
          have := HV.out
          omega
        have ha0 : 0 ≤ a := by have := HV.out; omega
        have hz := HM.out.1
        have HMM := Lib.hid hmd
        have hm15 : (m : Int) ≤ 15 := by omega
        have k0 : (0 : Int) ≤ (k : Int) := by omega
        clear hmd
        have hks : k < s.size ↔ j < L.length := by have := HK.out; have := HSZ.out; omega
        by_cases hlt : k < s.size
        · have hjl := hks.1 hlt
          have g1 : (k : Int) < (s.size : Int) := by omega
          obtain ⟨c, hc⟩ : ∃ c, L[j]? = some c := ⟨_, List.getElem?_eq_getElem hjl⟩
          have hsc : s[k] = c := by
            have e := HK.out
            have := HAT.out j (by omega) c hc
            simpa only [e] using this
          have HC := Lib.hid hc
          obtain ⟨d, hd⟩ : ∃ d : Int, (c.toNat : Int) = d := ⟨_, rfl⟩
          have hpt := point_at HA.out HB.out (by rw [← HL0.out]; exact hc)
          have HJL := Lib.hid hjl
          clear hks hc hjl
          rcases hpt with ⟨hj, hc46⟩ | ⟨hj, hdig⟩
          · have hd46 : d = 46 := by rw [← hd, hc46]; rfl
            have hsf : sd = false := by rw [HSD.out]; exact decide_eq_false (by have := HNA.out; omega)
            have HJE := Lib.hid hj
            have HC46 := Lib.hid hc46
            subst hsf
            subst hd46
            clear hj hc46 hz
            go_wp2
            go_roundg (gk - 1)
            case measure => have := HG.out; have := HJL.out; omega
            case rel => exact ⟨k + 1, j + 1, m, a, m, true, sg, by have := HK.out; show _ = _; omega, by go_num, rfl, rfl, rfl, rfl, rfl, rfl, rfl, rfl, by have := HG.out; have := HJL.out; show _ = _; omega, by show _ = _; rw [dgs_dot (by rw [HC.out, HC46.out])]; exact HV.out, by rw [dgs_dot (by rw [HC.out, HC46.out])]; exact HM.out, by show _ = _; rw [decide_eq_true]; have := HNA.out; have := HJE.out; omega, by show _ = _; rw [HSG.out]; have := HNP.out; have := HNA.out; have := HJE.out; rw [decide_eq_true (by omega), decide_eq_true (by omega)], fun _ => by have := HNA.out; have := HJE.out; omega, ⟨by omega, by omega, by have := HLL.out; have := HLEN.out; have := HJL.out; omega⟩, rfl⟩
          · have d1 : 48 ≤ d := by omega
            have d2 : d ≤ 57 := by omega
            have HV2 : Hid ((dval 0 (dgs L (j + 1)) : Int) = a * 10 + (d - 48)) := by
              show _ = _
              rw [dgs_step HC.out (dig_ne hdig), dval_app, dval_cons, dval_nil]
              have := HV.out
              omega
            have HJE := Lib.hid hj
            have HLN : Hid ((dgs L (j + 1)).length = (dgs L j).length + 1) := by show _ = _; rw [dgs_step HC.out (dig_ne hdig), List.length_append]; rfl
            clear hj hdig
            by_cases hskip : d = 48 ∧ m = 0
            · obtain ⟨rfl, rfl⟩ := hskip
              have ha : a = 0 := hz.1 rfl
              subst ha
              clear hz
              go_wp2
              go_roundg (gk - 1)
              case measure => have := HG.out; have := HJL.out; omega
              case rel => exact ⟨k + 1, j + 1, 0, 0, dp - 1, sd, true, by have := HK.out; show _ = _; omega, by go_num, rfl, rfl, rfl, rfl, rfl, rfl, rfl, rfl, by have := HG.out; have := HJL.out; show _ = _; omega, by show _ = _; have := HV2.out; omega, ⟨by simp, by omega⟩, by show _ = _; rw [HSD.out]; have := HJE.out; have := HNA.out; congr 1; rw [eq_iff_iff]; omega, by show _ = _; rw [decide_eq_true (by omega)], fun h => by have := HDP.out (by have := HJE.out; have := HNA.out; omega); omega, ⟨by omega, by omega, by have := HLL.out; have := HLEN.out; have := HJL.out; omega⟩, rfl⟩
            · have HREL : Hid (∀ W, W = wr → RFLoop L nA j0 wr (gk - 1) (.int .u64 (a * 10 + (d - 48))) (.bool false) (.int .i64 ((k : Int) + 1)) (.bool false) (.bool sd) (.bool true) (.int .i64 ((m : Int) + 1)) (.int .i64 ((m : Int) + 1)) (.int .i64 dp) W) := fun W hW =>
                ⟨k + 1, j + 1, m + 1, a * 10 + (d - 48), dp, sd, true, by have := HK.out; show _ = _; omega, by go_num, rfl, rfl, rfl, rfl, rfl, by go_num, by go_num, rfl, by have := HG.out; have := HJL.out; show _ = _; omega, HV2.out.symm, ⟨by constructor <;> intro h <;> omega, by have := HLN.out; have := HM.out.2; omega⟩, by show _ = _; rw [HSD.out]; have := HJE.out; have := HNA.out; congr 1; rw [eq_iff_iff]; omega, by show _ = _; rw [decide_eq_true (by omega)], fun h => by have := HDP.out (by have := HJE.out; have := HNA.out; omega); omega, ⟨by omega, by omega, by have := HLL.out; have := HLEN.out; have := HJL.out; omega⟩, hW⟩
              have hw19 : (m : Int) < 19 := by omega
              by_cases hd8 : d = 48
              · have hm0 : ((m : Int) == 0) = false := by rw [beq_eq_false_iff_ne]; omega
                subst hd8
                clear hskip hz
                go_wp2
                go_roundg (gk - 1)
                case measure => have := HG.out; have := HJL.out; omega
                case rel => simpa using HREL.out _ rfl
              · have hd9 : (d == 48) = false := by rw [beq_eq_false_iff_ne]; exact hd8
                clear hskip hz hd8
                go_wp2
                go_roundg (gk - 1)
                case measure => have := HG.out; have := HJL.out; omega
                case rel => exact HREL.out _ rfl
        · have hjl : j = L.length := by have := HG.out; have := hks.2; omega
          have hst : sd = true := by rw [HSD.out]; exact decide_eq_true (by have := HNA.out; have := HLL.out; omega)
          have hgt : sg = true := by rw [HSG.out]; exact decide_eq_true (by have := HLL.out; omega)
          have hav : a = (dval 0 (A ++ B) : Int) := by rw [HV.out, hjl, HL0.out, dgs_full HA.out HB.out]
          have hdpv : dp = (m : Int) - (B.length : Int) := by
            have := HDP.out (by have := HNA.out; have := HLL.out; omega)
            have := HNA.out
            have := HLL.out
            omega
          have g1 : ¬ (k : Int) < (s.size : Int) := by omega
          have g2 : (k : Int) = (s.size : Int) := by have := HK.out; have := HSZ.out; omega
          have HG2 := Lib.hid g2
          have hbl : (B.length : Int) ≤ 15 := by have := HLEN.out; omega
          have hz0 : dval 0 (A ++ B) = 0 ↔ a = 0 := by omega
          have HAV := Lib.hid hav
          subst hst
          subst hgt
          clear hks hlt hz hjl hav
          clear g2
          by_cases h : a = 0
          · have HR : Hid (X = 0) := HX.out.trans (if_pos (hz0.2 h))
            have hb : (a == 0) = true := by rw [h]; rfl
            have hb2 : (a != 0) = false := by rw [h]; rfl
            clear h hz0 hdpv
            go_wp2
            (try rw [Exit.noGoto_ret])
            refine bodyPost_ret (results_tmp7 rfl _ _ _) rfl ?_
            exact ⟨ret7 (HAV.out.trans HVV.out.symm) HR.out.symm (HG2.out.trans HZ.out.symm), rfl⟩
          · have HR : Hid (X = -(B.length : Int)) := HX.out.trans (if_neg fun e => h (hz0.1 e))
            have hb : (a == 0) = false := by rw [beq_eq_false_iff_ne]; exact h
            have hb2 : (a != 0) = true := by rw [bne_iff_ne]; exact h
            have hdm : dp - (m : Int) = -(B.length : Int) := by omega
            have HDM := Lib.hid hdm
            clear h hdm hz0 hdpv
            go_wp2
            (try rw [Exit.noGoto_ret])
            refine bodyPost_ret (results_tmp7 rfl _ _ _) rfl ?_
            exact ⟨ret7 (HAV.out.trans HVV.out.symm) (HDM.out.trans HR.out.symm) (HG2.out.trans HZ.out.symm), rfl⟩
end Go.Proofs.YtlailomhgipppaaGreatDoor
