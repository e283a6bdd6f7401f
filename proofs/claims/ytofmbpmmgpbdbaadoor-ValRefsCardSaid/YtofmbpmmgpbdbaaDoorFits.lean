/- What is in form of a value's top: bits of a text, fits. -/
import Derived.Test.YtofmbpmmgpbdbaaDoorSame
namespace Go.Proofs.YtofmbpmmgpbdbaaDoor
open Go.RowKit
set_option linter.unusedVariables false

theorem below_drewN {B : Nat} {a w : World} (h : Below B a w) (n : Nat) : Below B a (w.drewN n) := ⟨h.os, h.tape, h.output, h.size, h.block⟩
theorem qs {P : Program} {f : FuncId} {args : Array Value} {w : World} {n : Nat} {v : Value}
    (h : Calls P f args (w.drewN n) fun e w' => e = .returned v ∧ w.drewN n = w') : Calls P f args (w.drewN n) fun e w'' => e = .returned v ∧ ∃ m, w'' = w.drewN m :=
  h.mono fun _ _ ⟨he, hm⟩ => ⟨he, n, hm.symm⟩
theorem qd {P : Program} {f : FuncId} {args : Array Value} {w : World} {n : Nat} {v : Value}
    (h : Calls P f args (w.drewN n) fun e w' => e = .returned v ∧ ∃ m, w' = (w.drewN n).drewN m) : Calls P f args (w.drewN n) fun e w'' => e = .returned v ∧ ∃ m, w'' = w.drewN m :=
  h.mono fun _ _ ⟨he, m, hm⟩ => ⟨he, n + m, by rw [hm, World.drewN_drewN]⟩

/-- A text's bytes as one number, the last 64 bits of it. -/
def bitsOf (l : List UInt8) : Nat := l.foldl (fun n c => (n * 256 + c.toNat) % 18446744073709551616) 0
theorem bitsOf_lt (l : List UInt8) : bitsOf l < 18446744073709551616 := by
  unfold bitsOf
  have : ∀ (l : List UInt8) (n : Nat), n < 18446744073709551616 → l.foldl (fun n c => (n * 256 + c.toNat) % 18446744073709551616) n < 18446744073709551616 := by
    intro l
    induction l with
    | nil => intro n h; exact h
    | cons c l ih => intro n _; exact ih _ (Nat.mod_lt _ (by decide))
  exact this l 0 (by decide)
theorem bitsOf_snoc (l : List UInt8) (c : UInt8) : bitsOf (l ++ [c]) = (bitsOf l * 256 + c.toNat) % 18446744073709551616 := by simp [bitsOf]
theorem bitsOf_take (s : ByteArray) (k : Nat) (h : k < s.size) : bitsOf (s.data.toList.take (k + 1)) = (bitsOf (s.data.toList.take k) * 256 + s[k].toNat) % 18446744073709551616 := by
  have e : s.data.toList.take (k + 1) = s.data.toList.take k ++ [s[k]] := by rw [List.take_succ_eq_append_getElem (by simpa using h)]; rfl
  rw [e, bitsOf_snoc]
theorem step_add (x : Nat) (c : UInt8) : IntKind.u64.wrap (IntKind.u64.wrap ((x : Int) * 256) + IntKind.u64.wrap (c.toNat : Int)) = (((x * 256 + c.toNat) % 18446744073709551616 : Nat) : Int) := by
  have hc : c.toNat < 256 := UInt8.toNat_lt c
  show ((x : Int) * 256 % 18446744073709551616 + (c.toNat : Int) % 18446744073709551616) % 18446744073709551616 = _
  omega
theorem step_or (x : Nat) (c : UInt8) : bits .or .u64 (IntKind.u64.wrap ((x : Int) * 256)) (c.toNat : Int) = (((x * 256 + c.toNat) % 18446744073709551616 : Nat) : Int) := by
  have hc : c.toNat < 256 := UInt8.toNat_lt c
  have e : IntKind.u64.wrap ((x : Int) * 256) = ((x * 256 % 18446744073709551616 : Nat) : Int) := by show (x : Int) * 256 % 18446744073709551616 = _; omega
  rw [e, u64_or_nat _ _ (by omega) (by omega), nat_join 8 (x * 256 % 18446744073709551616) c.toNat (by omega) (by omega)]
  omega

def BitsLoop (s : ByteArray) (k : Nat) (s1 s2 : Value) : Prop := ∃ i : Nat, s2 = .int .i64 i ∧ i + k = s.size ∧ s1 = .int .u64 (bitsOf (s.data.toList.take i))
theorem refBits_any (s : ByteArray) (w : World) (hs : s.size ≤ maxLen) : Calls Tryd.prog 40 #[.string s] w fun e w' => e = .returned (.int .u64 (bitsOf s.data.toList)) ∧ w = w' := by
  unfold maxLen at hs
  go_enter Tryd.func40, Tryd.ntmps40
  go_wp2
  go_loopg [3, 4] s.size (fun k s1 s2 w2 => w2 = w ∧ BitsLoop s k s1 s2)
  case atStart => exact ⟨rfl, 0, rfl, by omega, rfl⟩
  case round =>
    obtain ⟨rfl, i, rfl, hik, rfl⟩ := hrel
    by_cases hlt : i < s.size
    · have HS := Lib.hid (bitsOf_take s i hlt)
      have HA := Lib.hid (step_add (bitsOf (s.data.toList.take i)) s[i])
      generalize bitsOf (s.data.toList.take i) = x at HS HA ⊢
      go_wp2
      go_roundg (gk - 1)
      case measure => omega
      case rel => exact ⟨rfl, i + 1, by go_num, by omega, by rw [HS.out, ← HA.out]⟩
    · obtain rfl : i = s.size := by omega
      have e : s.data.toList.take s.size = s.data.toList := List.take_of_length_le (by simp)
      rw [e]
      go_wp2
      go_ret
      exact ⟨rfl, rfl⟩
theorem float_any (s : ByteArray) (w : World) (hs : s.size ≤ maxLen) : Calls Tryd.prog 32 #[.string s] w fun e w' => e = .returned (.int .u64 (bitsOf s.data.toList)) ∧ w = w' := by
  unfold maxLen at hs
  go_enter Tryd.func32, Tryd.ntmps32
  go_wp2
  go_loopg [3, 7] s.size (fun k s1 s2 w2 => w2 = w ∧ BitsLoop s k s1 s2)
  case atStart => exact ⟨rfl, 0, rfl, by omega, rfl⟩
  case round =>
    obtain ⟨rfl, i, rfl, hik, rfl⟩ := hrel
    by_cases hlt : i < s.size
    · have HS := Lib.hid (bitsOf_take s i hlt)
      have HA := Lib.hid (step_or (bitsOf (s.data.toList.take i)) s[i])
      have hc1 : (0 : Int) ≤ (s[i].toNat : Int) := by omega
      have hc2 : (s[i].toNat : Int) < 256 := by have := UInt8.toNat_lt s[i]; omega
      generalize bitsOf (s.data.toList.take i) = x at HS HA ⊢
      go_wp2
      go_roundg (gk - 1)
      case measure => omega
      case rel => exact ⟨rfl, i + 1, by go_num, by omega, by rw [HS.out, ← HA.out]⟩
    · obtain rfl : i = s.size := by omega
      have e : s.data.toList.take s.size = s.data.toList := List.take_of_length_le (by simp)
      rw [e]
      go_wp2
      go_ret
      exact ⟨rfl, rfl⟩

/-- Is a text empty? -/
def emptyB (s : ByteArray) : Bool := decide (s.size = 0)
theorem empty1 (s : ByteArray) : s.toList.isEmpty = emptyB s := by
  unfold emptyB; rw [ByteArray.toList_eq]; cases h : s.data.toList <;> simp [ByteArray.size, ← Array.length_toList, h]
theorem empty2 (s : ByteArray) : (s.toList = []) = (emptyB s = true) := by
  unfold emptyB; rw [ByteArray.toList_eq]; cases h : s.data.toList <;> simp [ByteArray.size, ← Array.length_toList, h]
def sameBits (s : ByteArray) : Bool := decide (canon (bitsOf s.data.toList) = bitsOf s.data.toList)
def fitsB (k n : Int) (s : ByteArray) (m : Nat) : Bool :=
  if k = 0 then decide (n = wr n) && emptyB s && decide (m = 0)
  else if k = 1 then decide (n = 0) && decide (s.size = 8) && decide (m = 0) && sameBits s
  else if k = 2 then decide (n = 0) && decide (s.size ≤ 4096) && decide (m = 0)
  else if k = 3 then decide (0 ≤ n) && decide (n ≤ 255) && emptyB s && decide (m ≤ 8)
  else if k = 4 then decide (n = 0) && emptyB s && decide (2 ≤ m) && decide (m ≤ 8)
  else if k = 5 then decide (1 ≤ n) && decide (n ≤ 1099511627776) && emptyB s && decide (m = 0)
  else if k = 6 then decide (n = 0) && emptyB s && decide (m = 0)
  else false

section
variable (n : Int) (s : ByteArray) (ao : Option Addr) (m cap : Nat) (w : World)
set_option maxRecDepth 100000 in
set_option maxHeartbeats 1600000 in
theorem refFits_2 (hs : s.size ≤ maxLen) (hm : m ≤ cap) (hcap : cap ≤ maxLen) :
    Calls Tryd.prog 47 #[.agg #[.int .i64 2, .int .i64 n, .string s, .slice ao m cap]] w fun e w' => e = .returned (.bool (fitsB 2 n s m)) ∧ Below w.heap.size w w' := by
  have hE1 := empty1 s
  have hE2 := empty2 s
  unfold maxLen at hs hcap
  go_enter Tryd.func47, Tryd.ntmps47
  go_wp2
  all_goals
    go_ret
    refine ⟨ret_bool ?_, (Below.refl _ _).alloc (Nat.le_refl _) _⟩
    rw [Bool.eq_iff_iff]
    simp [fitsB, *]
    try omega
set_option maxRecDepth 100000 in
set_option maxHeartbeats 1600000 in
theorem refFits_3 (hs : s.size ≤ maxLen) (hm : m ≤ cap) (hcap : cap ≤ maxLen) :
    Calls Tryd.prog 47 #[.agg #[.int .i64 3, .int .i64 n, .string s, .slice ao m cap]] w fun e w' => e = .returned (.bool (fitsB 3 n s m)) ∧ Below w.heap.size w w' := by
  have hE1 := empty1 s
  have hE2 := empty2 s
  unfold maxLen at hs hcap
  go_enter Tryd.func47, Tryd.ntmps47
  go_wp2
  all_goals
    go_ret
    refine ⟨ret_bool ?_, (Below.refl _ _).alloc (Nat.le_refl _) _⟩
    rw [Bool.eq_iff_iff]
    simp [fitsB, *]
    try omega
set_option maxRecDepth 100000 in
set_option maxHeartbeats 1600000 in
theorem refFits_4 (hs : s.size ≤ maxLen) (hm : m ≤ cap) (hcap : cap ≤ maxLen) :
    Calls Tryd.prog 47 #[.agg #[.int .i64 4, .int .i64 n, .string s, .slice ao m cap]] w fun e w' => e = .returned (.bool (fitsB 4 n s m)) ∧ Below w.heap.size w w' := by
  have hE1 := empty1 s
  have hE2 := empty2 s
  unfold maxLen at hs hcap
  go_enter Tryd.func47, Tryd.ntmps47
  go_wp2
  all_goals
    go_ret
    refine ⟨ret_bool ?_, (Below.refl _ _).alloc (Nat.le_refl _) _⟩
    rw [Bool.eq_iff_iff]
    simp [fitsB, *]
    try omega
set_option maxRecDepth 100000 in
set_option maxHeartbeats 1600000 in
theorem refFits_5 (hs : s.size ≤ maxLen) (hm : m ≤ cap) (hcap : cap ≤ maxLen) :
    Calls Tryd.prog 47 #[.agg #[.int .i64 5, .int .i64 n, .string s, .slice ao m cap]] w fun e w' => e = .returned (.bool (fitsB 5 n s m)) ∧ Below w.heap.size w w' := by
  have hE1 := empty1 s
  have hE2 := empty2 s
  unfold maxLen at hs hcap
  go_enter Tryd.func47, Tryd.ntmps47
  go_wp2
  all_goals
    go_ret
    refine ⟨ret_bool ?_, (Below.refl _ _).alloc (Nat.le_refl _) _⟩
    rw [Bool.eq_iff_iff]
    simp [fitsB, *]
    try omega
set_option maxRecDepth 100000 in
set_option maxHeartbeats 1600000 in
theorem refFits_6 (hs : s.size ≤ maxLen) (hm : m ≤ cap) (hcap : cap ≤ maxLen) :
    Calls Tryd.prog 47 #[.agg #[.int .i64 6, .int .i64 n, .string s, .slice ao m cap]] w fun e w' => e = .returned (.bool (fitsB 6 n s m)) ∧ Below w.heap.size w w' := by
  have hE1 := empty1 s
  have hE2 := empty2 s
  unfold maxLen at hs hcap
  go_enter Tryd.func47, Tryd.ntmps47
  go_wp2
  all_goals
    go_ret
    refine ⟨ret_bool ?_, (Below.refl _ _).alloc (Nat.le_refl _) _⟩
    rw [Bool.eq_iff_iff]
    simp [fitsB, *]
    try omega
set_option maxRecDepth 100000 in
set_option maxHeartbeats 1600000 in
theorem refFits_x (k : Int) (h0 : ¬ k = 0) (h1 : ¬ k = 1) (h2 : ¬ k = 2) (h3 : ¬ k = 3) (h4 : ¬ k = 4) (h5 : ¬ k = 5) (h6 : ¬ k = 6) (hs : s.size ≤ maxLen) (hm : m ≤ cap) (hcap : cap ≤ maxLen) :
    Calls Tryd.prog 47 #[.agg #[.int .i64 k, .int .i64 n, .string s, .slice ao m cap]] w fun e w' => e = .returned (.bool (fitsB k n s m)) ∧ Below w.heap.size w w' := by
  have hE1 := empty1 s
  have hE2 := empty2 s
  unfold maxLen at hs hcap
  go_enter Tryd.func47, Tryd.ntmps47
  go_wp2
  all_goals
    go_ret
    refine ⟨ret_bool ?_, (Below.refl _ _).alloc (Nat.le_refl _) _⟩
    rw [Bool.eq_iff_iff]
    simp [fitsB, *]
    try omega

set_option maxRecDepth 100000 in
set_option maxHeartbeats 1600000 in
theorem refFits_0 (hs : s.size ≤ maxLen) (hm : m ≤ cap) (hcap : cap ≤ maxLen) :
    Calls Tryd.prog 47 #[.agg #[.int .i64 0, .int .i64 n, .string s, .slice ao m cap]] w fun e w' => e = .returned (.bool (fitsB 0 n s m)) ∧ Below w.heap.size w w' := by
  have HS := Lib.hid hs
  have hE1 := empty1 s
  have hE2 := empty2 s
  unfold maxLen at hs hcap
  by_cases hn : n = wr n
  · have hq : (n == wr n) = true := by simpa using hn
    have HN := Lib.hid hn
    clear hn
    cases hE : emptyB s
    · rw [hE] at hE1 hE2
      go_enter Tryd.func47, Tryd.ntmps47
      go_wp2
      go_quiet ((first | (go_at_call 64; exact qs (refWrap_any _ _)) | (go_at_call 40; exact qs (refBits_any _ _ HS.out)) | (go_at_call 72; exact qs (canon_any _ (bitsOf_lt _) _))))
      go_wp2
      all_goals
        go_ret
        refine ⟨ret_bool ?_, below_drewN ((Below.refl _ _).alloc (Nat.le_refl _) _) _⟩
        rw [Bool.eq_iff_iff]
        simp [fitsB, hE, ← HN.out]
        try omega
    · rw [hE] at hE1 hE2
      go_enter Tryd.func47, Tryd.ntmps47
      go_wp2
      go_quiet ((first | (go_at_call 64; exact qs (refWrap_any _ _)) | (go_at_call 40; exact qs (refBits_any _ _ HS.out)) | (go_at_call 72; exact qs (canon_any _ (bitsOf_lt _) _))))
      go_wp2
      all_goals
        go_ret
        refine ⟨ret_bool ?_, below_drewN ((Below.refl _ _).alloc (Nat.le_refl _) _) _⟩
        rw [Bool.eq_iff_iff]
        simp [fitsB, hE, ← HN.out]
        try omega
  · have hq : (n == wr n) = false := by simpa using hn
    have HN := Lib.hid hn
    clear hn
    go_enter Tryd.func47, Tryd.ntmps47
    go_wp2
    go_quiet ((first | (go_at_call 64; exact qs (refWrap_any _ _)) | (go_at_call 40; exact qs (refBits_any _ _ HS.out)) | (go_at_call 72; exact qs (canon_any _ (bitsOf_lt _) _))))
    go_wp2
    all_goals
      go_ret
      refine ⟨ret_bool ?_, below_drewN ((Below.refl _ _).alloc (Nat.le_refl _) _) _⟩
      rw [Bool.eq_iff_iff]
      simp [fitsB, HN.out]
      try omega

set_option maxRecDepth 100000 in
set_option maxHeartbeats 1600000 in
theorem refFits_1 (hs : s.size ≤ maxLen) (hm : m ≤ cap) (hcap : cap ≤ maxLen) :
    Calls Tryd.prog 47 #[.agg #[.int .i64 1, .int .i64 n, .string s, .slice ao m cap]] w fun e w' => e = .returned (.bool (fitsB 1 n s m)) ∧ Below w.heap.size w w' := by
  have HS := Lib.hid hs
  unfold maxLen at hs hcap
  by_cases hn : n = 0
  · subst hn
    by_cases h8 : s.size = 8
    · have h8' : ((s.size : Int) == 8) = true := by simp [h8]
      by_cases hm0 : m = 0
      · subst hm0
        have H8 := Lib.hid h8
        clear h8
        go_enter Tryd.func47, Tryd.ntmps47
        go_wp2
        go_quiet ((first | (go_at_call 64; exact qs (refWrap_any _ _)) | (go_at_call 40; exact qs (refBits_any _ _ HS.out)) | (go_at_call 72; exact qs (canon_any _ (bitsOf_lt _) _))))
        go_wp2
        all_goals
          go_ret
          refine ⟨ret_bool ?_, below_drewN ((Below.refl _ _).alloc (Nat.le_refl _) _) _⟩
          rw [Bool.eq_iff_iff]
          simp [fitsB, H8.out, sameBits]
          try omega
      · have hm1 : ((m : Int) == 0) = false := by simpa using hm0
        have H8 := Lib.hid h8
        clear h8
        go_enter Tryd.func47, Tryd.ntmps47
        go_wp2
        go_quiet ((first | (go_at_call 64; exact qs (refWrap_any _ _)) | (go_at_call 40; exact qs (refBits_any _ _ HS.out)) | (go_at_call 72; exact qs (canon_any _ (bitsOf_lt _) _))))
        go_wp2
        all_goals
          go_ret
          refine ⟨ret_bool ?_, below_drewN ((Below.refl _ _).alloc (Nat.le_refl _) _) _⟩
          rw [Bool.eq_iff_iff]
          simp [fitsB, H8.out, sameBits, hm0]
          try omega
    · have h8' : ((s.size : Int) == 8) = false := by simp; omega
      have H8 := Lib.hid h8
      clear h8
      go_enter Tryd.func47, Tryd.ntmps47
      go_wp2
      go_quiet ((first | (go_at_call 64; exact qs (refWrap_any _ _)) | (go_at_call 40; exact qs (refBits_any _ _ HS.out)) | (go_at_call 72; exact qs (canon_any _ (bitsOf_lt _) _))))
      go_wp2
      all_goals
        go_ret
        refine ⟨ret_bool ?_, below_drewN ((Below.refl _ _).alloc (Nat.le_refl _) _) _⟩
        rw [Bool.eq_iff_iff]
        simp [fitsB, H8.out]
        try omega
  · have hq : (n == 0) = false := by simpa using hn
    go_enter Tryd.func47, Tryd.ntmps47
    go_wp2
    go_quiet ((first | (go_at_call 64; exact qs (refWrap_any _ _)) | (go_at_call 40; exact qs (refBits_any _ _ HS.out)) | (go_at_call 72; exact qs (canon_any _ (bitsOf_lt _) _))))
    go_wp2
    all_goals
      go_ret
      refine ⟨ret_bool ?_, below_drewN ((Below.refl _ _).alloc (Nat.le_refl _) _) _⟩
      rw [Bool.eq_iff_iff]
      simp [fitsB, hn]
      try omega
end
theorem refFits_any (k n : Int) (s : ByteArray) (ao : Option Addr) (m cap : Nat) (w : World) (hs : s.size ≤ maxLen) (hm : m ≤ cap) (hcap : cap ≤ maxLen) :
    Calls Tryd.prog 47 #[.agg #[.int .i64 k, .int .i64 n, .string s, .slice ao m cap]] w fun e w' => e = .returned (.bool (fitsB k n s m)) ∧ Below w.heap.size w w' := by
  by_cases h0 : k = 0
  · subst h0; exact refFits_0 n s ao m cap w hs hm hcap
  by_cases h1 : k = 1
  · subst h1; exact refFits_1 n s ao m cap w hs hm hcap
  by_cases h2 : k = 2
  · subst h2; exact refFits_2 n s ao m cap w hs hm hcap
  by_cases h3 : k = 3
  · subst h3; exact refFits_3 n s ao m cap w hs hm hcap
  by_cases h4 : k = 4
  · subst h4; exact refFits_4 n s ao m cap w hs hm hcap
  by_cases h5 : k = 5
  · subst h5; exact refFits_5 n s ao m cap w hs hm hcap
  by_cases h6 : k = 6
  · subst h6; exact refFits_6 n s ao m cap w hs hm hcap
  exact refFits_x n s ao m cap w k h0 h1 h2 h3 h4 h5 h6 hs hm hcap
end Go.Proofs.YtofmbpmmgpbdbaaDoor
