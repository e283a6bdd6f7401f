/- atof64 at digits with a point. -/
import Derived.Test.YtlailomhgipppaaGreatDoorFloatRd
import Derived.Test.YtlailomhgipppaaGreatDoorFlPlain
import Derived.Laws.FloatArith
import Derived.Laws.Cover2
import Derived.Laws.Small
namespace Go.Proofs.YtlailomhgipppaaGreatDoor
open Go.RowKit
set_option linter.unusedVariables false
set_option linter.unusedSimpArgs false

/-- What the walk reads of the library's variables. -/
structure FTab (w : World) : Prop where
  info : w.cell? ⟨6, 0, none⟩ = some (.int .u64 52)
  opt : w.cell? ⟨5, 0, none⟩ = some (.bool true)
  pow : ∃ b o cap, w.cell? ⟨11, 0, none⟩ = some (.slice (some ⟨b, o, none⟩) 23 cap) ∧ ∀ k, k ≤ 15 → w.cell? ⟨b, o + k, none⟩ = some (.float .f64 (fw (10 ^ k)))
theorem FTab.below {w w' : World} (h : FTab w) (hb : Below w.heap.size w w') : FTab w' := by
  obtain ⟨h1, h2, b, o, cap, h3, h4⟩ := h
  refine ⟨(hb.cell (p := ⟨6, 0, none⟩) (lt_of_cell' h1)).trans h1, (hb.cell (p := ⟨5, 0, none⟩) (lt_of_cell' h2)).trans h2, b, o, cap, (hb.cell (p := ⟨11, 0, none⟩) (lt_of_cell' h3)).trans h3, fun k hk => (hb.cell (p := ⟨b, o + k, none⟩) (lt_of_cell' (h4 k hk))).trans (h4 k hk)⟩
def signed2 (neg : Bool) (R : Nat) : Nat := if neg then 9223372036854775808 + R else R
theorem flip63 {x : Nat} (h : x < 9223372036854775808) : x ^^^ 2 ^ 63 = x + 2 ^ 63 := by
  have := Nat.two_pow_add_eq_or_of_lt (i := 63) (b := x) h 1
  rw [Nat.mul_one] at this
  rw [Nat.add_comm, this]
  apply Nat.eq_of_testBit_eq
  intro i
  rw [Nat.testBit_xor, Nat.testBit_or, Nat.testBit_two_pow]
  by_cases e : 63 = i
  · subst e
    have : x.testBit 63 = false := Nat.testBit_lt_two_pow h
    rw [this]; rfl
  · rw [decide_eq_false e, Bool.xor_false, Bool.false_or]
set_option maxRecDepth 100000 in
set_option maxHeartbeats 1600000 in
theorem exact_any (m k : Nat) (neg : Bool) (hm : m < 1000000000000000) (hk1 : 1 ≤ k) (hk : k ≤ 15) (w : World) (hT : FTab w) :
    Calls Tryz.prog 93 #[.int .u64 (m : Int), .int .i64 (-(k : Int)), .bool neg] w fun e w' => e = .returned (.tuple #[.float .f64 (signed2 neg (quotR m k)), .bool true]) ∧ w = w' := by
  obtain ⟨hi, ho, b, o, cap, hp, hc⟩ := hT
  have hck := hc k hk
  obtain ⟨f1, f2, f3⟩ := quotR_facts (m := m) (k := k) (by omega) hk
  have hcv : ∀ W, (convert 32 61 (.int .u64 (m : Int))).run Tryz.prog W = .ok (.float .f64 (fw m)) W := fun W =>
    run_convert_int_float (w := W) 32 61 .u64 .f64 (m : Int) (by kernel_rfl) Tryz.underlying61
  have hdiv : (m : Int) / 4503599627370496 = 0 := by omega
  obtain ⟨X, hX⟩ : ∃ X, X = fw m := ⟨_, rfl⟩
  obtain ⟨Y, hY⟩ : ∃ Y, Y = fw (10 ^ k) := ⟨_, rfl⟩
  obtain ⟨R, hR⟩ : ∃ R, R = quotR m k := ⟨_, rfl⟩
  obtain ⟨N, hN⟩ : ∃ N, N = 9223372036854775808 + X := ⟨_, rfl⟩
  obtain ⟨S, hS⟩ : ∃ S, S = signed2 neg R := ⟨_, rfl⟩
  rw [← hX] at hcv f2 f3
  rw [← hY] at hck f2 f3
  rw [← hR] at f2 f3
  rw [← hN] at f3
  rw [← hR, ← hS]
  have hXl : X < 9223372036854775808 := by have := (fw_bears (m := m) (by omega)).1; omega
  have hng : Op.unary .neg (.float .f64 X) = (Pure.pure (Value.float .f64 N) : Sem Value) := by
    show (Pure.pure (Value.float .f64 (Op.negFloat .f64 X)) : Sem Value) = _
    have e : Op.negFloat .f64 X = N := by
      rw [hN]
      unfold Op.negFloat
      have e1 : FloatKind.f64.format.exponentBits + FloatKind.f64.format.fractionBits = 63 := rfl
      rw [e1, Nat.add_comm]
      have h1 : X ^^^ 2 ^ 63 = X + 2 ^ 63 := flip63 hXl
      exact h1
    rw [e]
  have hq1 : neg = false → ∀ W, (binOp .quo 61 (.float .f64 X) (.float .f64 Y)).run Tryz.prog W = .ok (.float .f64 S) W := fun hn W => by
    rw [hS, hn]
    exact run_float_arith W .quo _ .f64 X Y R f2
  have hq2 : neg = true → ∀ W, (binOp .quo 61 (.float .f64 N) (.float .f64 Y)).run Tryz.prog W = .ok (.float .f64 S) W := fun hn W => by
    rw [hS, hn]
    exact run_float_arith W .quo _ .f64 N Y (9223372036854775808 + R) f3
  clear hc ho f1 f2 f3 hS hR hN hX hY hXl
  have ha0 : (0 : Int) ≤ (m : Int) := by omega
  have hm' := Lib.hid hm
  clear hm
  have k0 : (1 : Int) ≤ (k : Int) := by omega
  have k1 : (k : Int) ≤ 15 := by omega
  go_enter Tryz.func93, Tryz.ntmps93
  go_upto_region 2 with fail
  clear hdiv
  cases neg
  · have hq := hq1 rfl
    clear hq1 hq2
    go_wp2
    go_ret2
    exact ⟨rfl, rfl⟩
  · have hq := hq2 rfl
    clear hq1 hq2
    go_wp2
    go_ret2
    exact ⟨rfl, rfl⟩

set_option maxRecDepth 100000 in
set_option maxHeartbeats 1600000 in
theorem common_any (s : ByteArray) (h0 : 0 < s.size) (hd : 48 ≤ s[0].toNat ∧ s[0].toNat ≤ 57) (hsz : s.size ≤ 18) (w : World) :
    Calls Tryz.prog 97 #[.string s, .string ⟨#[105, 110, 102, 105, 110, 105, 116, 121]⟩] w fun e w' => e = .returned (.int .i64 0) ∧ w = w' := by
  obtain ⟨d, hde, h1, h2⟩ : ∃ d : Int, (s[0].toNat : Int) = d ∧ 48 ≤ d ∧ d ≤ 57 := ⟨_, rfl, by omega, by omega⟩
  have hs1 : (0 : Int) < (s.size : Int) := by omega
  have hne : (d != (((⟨#[105, 110, 102, 105, 110, 105, 116, 121]⟩ : ByteArray)[0]'(by decide)).toNat : Int)) = true := by
    rw [bne_iff_ne]
    show d ≠ 105
    omega
  clear hd
  go_enter Tryz.func97, Tryz.ntmps97
  by_cases hlt : (s.size : Int) < 8
  all_goals
    go_wp2
    refine wp_loop_rounds 1 ?_
    rw [rounds_succ]
    go_wp2
    go_ret
    exact ⟨rfl, rfl⟩

theorem results_tmp3 {fn : Func} {a b c : Tmp} (h : fn.results = #[.tmp a, .tmp b, .tmp c]) (tmps : Array Value) (P : Program) (w : World) :
    (results fn tmps).run P w = .ok (.tuple #[tmps.getD a undef, tmps.getD b undef, tmps.getD c undef]) w := by
  simp [results, h]
set_option maxRecDepth 100000 in
set_option maxHeartbeats 1600000 in
theorem special_any (s : ByteArray) (h0 : 0 < s.size) (hd : 48 ≤ s[0].toNat ∧ s[0].toNat ≤ 57) (w : World) :
    Calls Tryz.prog 82 #[.string s] w fun e w' => e = .returned (.tuple #[.float .f64 0, .int .i64 0, .bool false]) ∧ w = w' := by
  obtain ⟨d, hde, h1, h2⟩ : ∃ d : Int, (s[0].toNat : Int) = d ∧ 48 ≤ d ∧ d ≤ 57 := ⟨_, rfl, by omega, by omega⟩
  have hs1 : (0 : Int) < (s.size : Int) := by omega
  have hs2 : ((s.size : Int) == 0) = false := by rw [beq_eq_false_iff_ne]; omega
  have q1 : (d == 43) = false := by rw [beq_eq_false_iff_ne]; omega
  have q2 : (d == 45) = false := by rw [beq_eq_false_iff_ne]; omega
  have q3 : (d == 105) = false := by rw [beq_eq_false_iff_ne]; omega
  have q4 : (d == 73) = false := by rw [beq_eq_false_iff_ne]; omega
  have q5 : (d == 110) = false := by rw [beq_eq_false_iff_ne]; omega
  have q6 : (d == 78) = false := by rw [beq_eq_false_iff_ne]; omega
  clear hd
  go_enter Tryz.func82, Tryz.ntmps82
  go_wp2
  refine bodyPost_ret (results_tmp3 rfl _ _ _) rfl ?_
  exact ⟨rfl, rfl⟩
set_option maxRecDepth 100000 in
set_option maxHeartbeats 1600000 in
theorem special_neg (s : ByteArray) (hsz : s.size ≤ 18) (h0 : 1 < s.size) (hm : s[0] = 45) (hd : 48 ≤ s[1].toNat ∧ s[1].toNat ≤ 57) (w : World) :
    Calls Tryz.prog 82 #[.string s] w fun e w' => e = .returned (.tuple #[.float .f64 0, .int .i64 0, .bool false]) ∧ w = w' := by
  have hs1 : (1 : Int) < (s.size : Int) := by omega
  have hs2 : ((s.size : Int) == 0) = false := by rw [beq_eq_false_iff_ne]; omega
  have hde : (s[0].toNat : Int) = 45 := by rw [hm]; rfl
  clear hm
  have hx : (s.extract 1 s.size).size = s.size - 1 := by rw [ByteArray.size_extract]; omega
  have hx0 : ∀ h, (s.extract 1 s.size)[0]'h = s[1] := fun h => by
    rw [ByteArray.getElem_extract]
  have HC := Lib.hid (common_any (s.extract 1 s.size) (by omega) (by rw [hx0]; exact hd) (by omega) w)
  clear hd hx hx0
  go_enter Tryz.func82, Tryz.ntmps82
  go_wp2_with (go_at_call 97; refine HC.out.mono ?_; rintro e w' ⟨rfl, rfl⟩)
  refine bodyPost_ret (results_tmp3 rfl _ _ _) rfl ?_
  exact ⟨rfl, rfl⟩

set_option maxRecDepth 100000 in
theorem bool2_any (b : Bool) (w : World) : Calls Tryz.prog 91 #[.bool b] w fun e w' => e = .returned (.int .u64 (if b then 1 else 0)) ∧ w = w' := by
  go_enter Tryz.func91, Tryz.ntmps91
  cases b
  all_goals
    go_wp2
    go_ret
    exact ⟨rfl, rfl⟩

@[go_sem] theorem run_frombits2 (n : Int) (W : World) : (callFunc 92 #[.int .u64 n]).run Tryz.prog W = .ok (.value (.float .f64 n.toNat)) W := by
  rw [run_callFunc_extern (e := Extern.MathFloatBits.float64frombits) Tryz.func92 (by kernel_rfl) rfl rfl (by kernel_rfl)]
  rfl
/-- What a text of digits with a point is made of. -/
structure FTxt (s : ByteArray) (neg : Bool) (A B : List UInt8) : Prop where
  txt : s.data.toList = (if neg then [45] else []) ++ (A ++ 46 :: B)
  da : A.all isDig = true
  db : B.all isDig = true
  na : A ≠ []
  nb : B ≠ []
  len : A.length + B.length ≤ 15
theorem FTxt.size {s : ByteArray} {neg : Bool} {A B : List UInt8} (h : FTxt s neg A B) : 3 ≤ s.size ∧ s.size ≤ 18 := by
  have h1 := List.length_pos_iff.2 h.na
  have h2 := List.length_pos_iff.2 h.nb
  have h3 := h.len
  rw [Lib.size_eq, h.txt]
  cases neg <;> simp <;> omega
theorem FTxt.val {s : ByteArray} {neg : Bool} {A B : List UInt8} (h : FTxt s neg A B) : dval 0 (A ++ B) < 1000000000000000 := by
  have h1 := dval_lt (A ++ B) 0 (by rw [List.all_append, h.da, h.db]; rfl)
  have h2 : 10 ^ (A ++ B).length ≤ 10 ^ 15 := Nat.pow_le_pow_right (by omega) (by rw [List.length_append]; exact h.len)
  have h3 : (10 : Nat) ^ 15 = 1000000000000000 := by decide
  omega
theorem FTxt.special {s : ByteArray} {neg : Bool} {A B : List UInt8} (h : FTxt s neg A B) (w : World) :
    Calls Tryz.prog 82 #[.string s] w fun e w' => e = .returned (.tuple #[.float .f64 0, .int .i64 0, .bool false]) ∧ w = w' := by
  have hs := h.size
  obtain ⟨c, r, hA⟩ := List.exists_cons_of_ne_nil h.na
  have hc : 48 ≤ c.toNat ∧ c.toNat ≤ 57 := isDig_iff.1 (List.all_eq_true.1 h.da c (by rw [hA]; exact List.mem_cons_self))
  cases neg with
  | false =>
    have e : s[0]'(by omega) = c := by
      have := Lib.getD_at s 0 (by omega)
      rw [h.txt, hA] at this
      exact this
    exact special_any s (by omega) (by rw [e]; exact hc) w
  | true =>
    have e0 : s[0]'(by omega) = 45 := by
      have := Lib.getD_at s 0 (by omega)
      rw [h.txt, hA] at this
      exact this
    have e1 : s[1]'(by omega) = c := by
      have := Lib.getD_at s 1 (by omega)
      rw [h.txt, hA] at this
      exact this
    exact special_neg s hs.2 (by omega) e0 (by rw [e1]; exact hc) w
theorem ret_float3 {a b : Nat} {c d : Int} (h : a = b) (h2 : c = d) : Ending.returned (.tuple #[.float .f64 a, .int .i64 c, .nilIface]) = .returned (.tuple #[.float .f64 b, .int .i64 d, .nilIface]) := by rw [h, h2]
set_option maxRecDepth 100000 in
set_option maxHeartbeats 1600000 in
theorem atof64_any (s : ByteArray) (neg : Bool) (A B : List UInt8) (h : FTxt s neg A B) (w : World) (hT : FTab w) :
    Calls Tryz.prog 76 #[.string s] w fun e w' => e = .returned (.tuple #[.float .f64 (signed2 neg (quotR (dval 0 (A ++ B)) B.length)), .int .i64 (s.size : Int), .nilIface]) ∧ w = w' := by
  have hs := h.size
  have hS := Lib.hid (h.special w)
  have hR := Lib.hid (readFloat_any s neg A B h.txt h.da h.db h.na h.nb h.len w)
  have hv := h.val
  have hb : 1 ≤ B.length := List.length_pos_iff.2 h.nb
  have hb2 : B.length ≤ 15 := by have := h.len; omega
  have hX := Lib.hid (exact_any (dval 0 (A ++ B)) B.length neg hv hb hb2 w hT)
  have ho := hT.opt
  obtain ⟨m, hm⟩ : ∃ m, m = dval 0 (A ++ B) := ⟨_, rfl⟩
  obtain ⟨k, hk⟩ : ∃ k, k = B.length := ⟨_, rfl⟩
  rw [← hm, ← hk]
  rw [← hm, ← hk] at hX
  rw [← hm, ← hk] at hR
  rw [← hk] at hb hb2
  clear hT hv h hm hk
  by_cases h0 : m = 0
  · subst h0
    have hq : signed2 neg (quotR 0 k) = if neg then 9223372036854775808 else 0 := by rw [quotR_zero hb2]; cases neg <;> rfl
    rw [hq]
    rw [if_pos rfl] at hR
    clear hX hq
    go_enter Tryz.func76, Tryz.ntmps76
    cases neg
    all_goals
      go_wp2_with (first | (go_at_call 82; refine hS.out.mono ?_; rintro e w' ⟨rfl, rfl⟩) | (go_at_call 83; refine hR.out.mono ?_; rintro e w' ⟨rfl, rfl⟩) | (go_at_call 91; refine (bool2_any _ _).mono ?_; rintro e w' ⟨rfl, rfl⟩))
      refine bodyPost_ret (results_tmp3 rfl _ _ _) rfl ?_
      exact ⟨ret_float3 (by decide) rfl, rfl⟩
  · rw [if_neg h0] at hR
    have hm0 : ((m : Int) == 0) = false := by rw [beq_eq_false_iff_ne]; omega
    have k1 : (1 : Int) ≤ (k : Int) := by omega
    have k2 : (k : Int) ≤ 15 := by omega
    clear hb hb2 h0
    go_enter Tryz.func76, Tryz.ntmps76
    go_wp2_with (first | (go_at_call 82; refine hS.out.mono ?_; rintro e w' ⟨rfl, rfl⟩) | (go_at_call 83; refine hR.out.mono ?_; rintro e w' ⟨rfl, rfl⟩) | (go_at_call 91; refine (bool2_any _ _).mono ?_; rintro e w' ⟨rfl, rfl⟩) | (go_at_call 93; refine hX.out.mono ?_; rintro e w' ⟨rfl, rfl⟩))
    all_goals
      refine bodyPost_ret (results_tmp3 rfl _ _ _) rfl ?_
      exact ⟨ret_float3 rfl rfl, rfl⟩

set_option maxRecDepth 100000 in
set_option maxHeartbeats 1600000 in
theorem prefix_any (s : ByteArray) (neg : Bool) (A B : List UInt8) (h : FTxt s neg A B) (w : World) (hT : FTab w) :
    Calls Tryz.prog 62 #[.string s, .int .i64 64] w fun e w' => e = .returned (.tuple #[.float .f64 (signed2 neg (quotR (dval 0 (A ++ B)) B.length)), .int .i64 (s.size : Int), .nilIface]) ∧ w = w' := by
  have hX := Lib.hid (atof64_any s neg A B h w hT)
  clear h hT
  go_enter Tryz.func62, Tryz.ntmps62
  go_wp2_with (go_at_call 76; refine hX.out.mono ?_; rintro e w' ⟨rfl, rfl⟩)
  go_ret3
  exact ⟨rfl, rfl⟩
set_option maxRecDepth 100000 in
set_option maxHeartbeats 1600000 in
theorem parseFloatIn_any (s : ByteArray) (neg : Bool) (A B : List UInt8) (h : FTxt s neg A B) (w : World) (hT : FTab w) :
    Calls Tryz.prog 46 #[.string s, .int .i64 64] w fun e w' => e = .returned (.tuple #[.float .f64 (signed2 neg (quotR (dval 0 (A ++ B)) B.length)), .nilIface]) ∧ w = w' := by
  have hX := Lib.hid (prefix_any s neg A B h w hT)
  have hs : (s.size : Int) ≤ 18 := by have := h.size; omega
  clear h hT
  go_enter Tryz.func46, Tryz.ntmps46
  go_wp2_with (go_at_call 62; refine hX.out.mono ?_; rintro e w' ⟨rfl, rfl⟩)
  go_ret2
  exact ⟨rfl, rfl⟩
set_option maxRecDepth 100000 in
set_option maxHeartbeats 1600000 in
theorem parseFloat_any (s : ByteArray) (neg : Bool) (A B : List UInt8) (h : FTxt s neg A B) (w : World) (hT : FTab w) :
    Calls Tryz.prog 39 #[.string s, .int .i64 64] w fun e w' => e = .returned (.tuple #[.float .f64 (signed2 neg (quotR (dval 0 (A ++ B)) B.length)), .nilIface]) ∧ w = w' := by
  have hX := Lib.hid (parseFloatIn_any s neg A B h w hT)
  clear h hT
  go_enter Tryz.func39, Tryz.ntmps39
  go_wp2_with (go_at_call 46; refine hX.out.mono ?_; rintro e w' ⟨rfl, rfl⟩)
  go_ret2
  exact ⟨rfl, rfl⟩
end Go.Proofs.YtlailomhgipppaaGreatDoor
