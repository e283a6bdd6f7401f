/- num.ReadFloat: what it reads of every text. -/
import Derived.Test.YtlailomhgipppaaGreatDoorAtof
import Derived.IntWalk
import Derived.Test.YtlailomhgipppaaGreatDoorFlNums
namespace Go.Proofs.YtlailomhgipppaaGreatDoor
open Go.RowKit
set_option linter.unusedVariables false
set_option linter.unusedSimpArgs false

theorem below_drewN {B : Nat} {a w : World} (h : Below B a w) (n : Nat) : Below B a (w.drewN n) := ⟨h.os, h.tape, h.output, h.size, h.block⟩
theorem below_same {B : Nat} {w w' : World} (h : w = w') : Below B w w' := h ▸ Below.refl _ _
def cutA (l : List UInt8) : List UInt8 := l.takeWhile (· != 46)
def cutB (l : List UInt8) : List UInt8 := (l.dropWhile (· != 46)).tail
def digs (l : List UInt8) : Bool := !l.isEmpty && l.all isDig
def signB (l : List UInt8) : Bool := l.head? == some 45
def floatT (l : List UInt8) : Nat × Int :=
  if (unsignedT l).contains 46 && (digs (cutA (unsignedT l)) && digs (cutB (unsignedT l))) then
    if 15 < (cutA (unsignedT l)).length + (cutB (unsignedT l)).length then (0, 4)
    else (signed2 (signB l) (quotR (dval 0 (cutA (unsignedT l) ++ cutB (unsignedT l))) (cutB (unsignedT l)).length), 0)
  else (0, 2)
theorem sign_split (l : List UInt8) : l = (if signB l then [45] else []) ++ unsignedT l := by
  unfold signB unsignedT
  cases l with
  | nil => rfl
  | cons c r =>
    by_cases h : c = 45
    · subst h; rfl
    · simp [h]
theorem cut_split {l : List UInt8} (h : l.contains 46 = true) : l = cutA l ++ 46 :: cutB l := by
  unfold cutA cutB
  induction l with
  | nil => simp at h
  | cons c r ih =>
    by_cases hc : c = 46
    · subst hc; simp
    · have : r.contains 46 = true := by simpa [Ne.symm hc] using h
      have e := ih this
      rw [List.takeWhile_cons_of_pos (by simpa using hc), List.dropWhile_cons_of_pos (by simpa using hc), List.cons_append, ← e]
theorem index_none {l : List UInt8} (h : l.contains 46 = false) : Lib.indexByte l 46 = -1 := by
  induction l with
  | nil => rfl
  | cons c r ih =>
    simp only [List.contains_cons, Bool.or_eq_false_iff] at h
    unfold Lib.indexByte
    have hc : (c == 46) = false := by have := h.1; rw [beq_eq_false_iff_ne] at this ⊢; exact fun e => this e.symm
    rw [hc, ih h.2]
    rfl
theorem index_some {l : List UInt8} (h : l.contains 46 = true) : Lib.indexByte l 46 = ((cutA l).length : Int) := by
  unfold cutA
  induction l with
  | nil => simp at h
  | cons c r ih =>
    unfold Lib.indexByte
    by_cases hc : c = 46
    · subst hc; rfl
    · have hr : r.contains 46 = true := by simpa [Ne.symm hc] using h
      rw [beq_eq_false_iff_ne.2 hc, ih hr, List.takeWhile_cons_of_pos (by simpa using hc)]
      have : (((List.takeWhile (fun x => x != 46) r).length : Int) == -1) = false := by rw [beq_eq_false_iff_ne]; omega
      simp only [this, List.length_cons, Bool.false_eq_true, if_false]
      omega
theorem cut_txt {l A B : List UInt8} (h : l = A ++ 46 :: B) (hA : A.all isDig = true) : cutA l = A ∧ cutB l = B := by
  subst h
  unfold cutA cutB
  have e : ∀ x ∈ A, (x != 46) = true := fun x hx => by simpa using dig_ne (isDig_iff.1 (List.all_eq_true.1 hA x hx))
  rw [List.takeWhile_append_of_pos e, List.dropWhile_append_of_pos e]
  simp
set_option maxRecDepth 100000 in
set_option maxHeartbeats 1600000 in
theorem cutL_no (s : ByteArray) (h : s.data.toList.contains 46 = false) (w : World) :
    Calls Tryz.prog 38 #[.string s, .string ⟨#[46]⟩] w fun e w' => e = .returned (.tuple #[.string s, .string ⟨#[]⟩, .bool false]) ∧ w = w' := by
  have hi := Tryz.stringslite_Index_one s 46 w
  rw [index_none h] at hi
  have HI := Lib.hid hi
  clear hi h
  have H2 : Hid (Calls Tryz.prog 45 #[.string s, .string ⟨#[46]⟩] w fun e w' => e = .returned (.tuple #[.string s, .string ⟨#[]⟩, .bool false]) ∧ w = w') := by
    show Calls _ _ _ _ _
    go_enter Tryz.func45, Tryz.ntmps45
    go_wp2_with (go_at_call 61; refine HI.out.mono ?_; rintro e w' ⟨rfl, rfl⟩)
    go_ret3
    exact ⟨rfl, rfl⟩
  go_enter Tryz.func38, Tryz.ntmps38
  go_wp2_with (go_at_call 45; refine H2.out.mono ?_; rintro e w' ⟨rfl, rfl⟩)
  go_ret3
  exact ⟨rfl, rfl⟩
theorem take_of {l A B : List UInt8} (h : l = A ++ 46 :: B) : l.take A.length = A := by rw [h]; simp
theorem drop_of {l A B : List UInt8} (h : l = A ++ 46 :: B) : l.drop (A.length + 1) = B := by rw [h, List.drop_append]; simp
theorem ret_cut {a b c d : ByteArray} (h1 : a = b) (h2 : c = d) : Ending.returned (.tuple #[.string a, .string c, .bool true]) = .returned (.tuple #[.string b, .string d, .bool true]) := by rw [h1, h2]
theorem bytes_of {x : ByteArray} {l : List UInt8} (h : x.data.toList = l) : x = ⟨l.toArray⟩ := by
  apply Go.WideShapes.bytes_inj
  rw [h]
set_option maxRecDepth 100000 in
set_option maxHeartbeats 1600000 in
theorem cutL_yes (s : ByteArray) (h : s.data.toList.contains 46 = true) (hs : s.size ≤ 1000000) (w : World) :
    Calls Tryz.prog 38 #[.string s, .string ⟨#[46]⟩] w fun e w' => e = .returned (.tuple #[.string ⟨(cutA s.data.toList).toArray⟩, .string ⟨(cutB s.data.toList).toArray⟩, .bool true]) ∧ Below w.heap.size w w' := by
  have hi := Tryz.stringslite_Index_one s 46 w
  rw [index_some h] at hi
  have hsp := cut_split h
  have hln : s.size = (cutA s.data.toList).length + (cutB s.data.toList).length + 1 := by
    rw [Lib.size_eq]
    conv => lhs; rw [hsp]
    simp; omega
  obtain ⟨n, hn⟩ : ∃ n, n = (cutA s.data.toList).length := ⟨_, rfl⟩
  have ha : s.extract 0 n = ⟨(cutA s.data.toList).toArray⟩ := bytes_of (by
    rw [Lib.extract_data, hn, Nat.sub_zero, List.drop_zero]
    exact take_of hsp)
  have hb : s.extract (n + 1) s.size = ⟨(cutB s.data.toList).toArray⟩ := bytes_of (by
    rw [Lib.extract_to_end, hn]
    exact drop_of hsp)
  rw [← hn] at hi hln
  rw [← ha, ← hb]
  have HI := Lib.hid hi
  have h1 : (n : Int) + 1 ≤ (s.size : Int) := by omega
  have h2 : (0 : Int) ≤ (n : Int) := by omega
  have h3 : (s.size : Int) ≤ 1000000 := by omega
  clear hi h hsp hln hn ha hb
  have H2 : Hid (Calls Tryz.prog 45 #[.string s, .string ⟨#[46]⟩] w fun e w' => e = .returned (.tuple #[.string (s.extract 0 n), .string (s.extract (n + 1) s.size), .bool true]) ∧ Below w.heap.size w w') := by
    show Calls _ _ _ _ _
    go_enter Tryz.func45, Tryz.ntmps45
    go_wp2_with (go_at_call 61; refine HI.out.mono ?_; rintro e w' ⟨rfl, rfl⟩)
    have e1 : IntKind.i64.wrap ((n : Int) + 1) = (n : Int) + 1 := IntWalk.i64_in _ (by omega)
    have e2 : (0 : Int) ≤ (n : Int) + 1 := by omega
    have e3 : ((n : Int) + 1).toNat = n + 1 := by omega
    go_quiet (fail)
    clear e1 e3
    go_wp2
    go_ret3
    exact ⟨rfl, below_drewN (Below.refl _ _) _⟩
  go_enter Tryz.func38, Tryz.ntmps38
  go_wp2_with (go_at_call 45; refine H2.out.mono ?_; rintro e w' ⟨rfl, hb⟩; have HB := Lib.hid hb; clear hb)
  go_ret3
  exact ⟨rfl, HB.out⟩

theorem ofF_any (b : Nat) (h : isNan b = false) (w : World) : Calls Tryz.prog 40 #[.float .f64 b] w fun e w' => e = .returned (.int .u64 (b : Int)) ∧ w = w' := by
  have := of_any b w
  rwa [canon_of h] at this
theorem refOf_any (b : Nat) (h : isNan b = false) (w : World) : Calls Tryz.prog 26 #[.float .f64 b] w fun e w' => e = .returned (.int .u64 (b : Int)) ∧ w = w' := by
  have ho := order_self b
  rw [h] at ho
  have HO : (FloatKind.f64.format.order b b != some Ordering.eq) = false := ho
  clear ho h
  go_enter Tryz.func26, Tryz.ntmps26
  go_wp2
  go_ret
  exact ⟨rfl, rfl⟩
theorem inf_not_nan {r : Nat} (h : r ≤ 9218868437227405312) : isNan r = false ∧ isNan (9223372036854775808 + r) = false := by
  unfold isNan
  constructor
  · rw [Nat.mod_eq_of_lt (by omega)]; exact decide_eq_false (by omega)
  · rw [show (9223372036854775808 + r) % 9223372036854775808 = r by omega]; exact decide_eq_false (by omega)
theorem signed2_not_nan {neg : Bool} {r : Nat} (h : r ≤ 9218868437227405312) : isNan (signed2 neg r) = false := by
  unfold signed2
  cases neg
  · exact (inf_not_nan h).1
  · exact (inf_not_nan h).2
set_option maxRecDepth 100000 in
set_option maxHeartbeats 1600000 in
theorem readFl_any (s : ByteArray) (hs : s.size ≤ 1000000) (w : World) (hT : FTab w) :
    Calls Tryz.prog 30 #[.string s] w fun e w' => e = .returned (.tuple #[.int .u64 ((floatT s.data.toList).1 : Int), .int .i64 (floatT s.data.toList).2]) ∧ Below w.heap.size w w' := by
  have hP := Tryz.strings_TrimPrefix s ⟨#[45]⟩ w
  rw [show (⟨#[45]⟩ : ByteArray).data.toList = [45] from rfl, trimPrefix_sign] at hP
  obtain ⟨t, ht⟩ : ∃ t : ByteArray, t = ⟨(unsignedT s.data.toList).toArray⟩ := ⟨_, rfl⟩
  have htl : t.data.toList = unsignedT s.data.toList := by rw [ht]
  rw [← ht] at hP
  have hlen : (unsignedT s.data.toList).length ≤ s.size := by
    rw [Lib.size_eq]
    unfold unsignedT
    split
    · rw [List.length_tail]; omega
    · exact Nat.le_refl _
  have HP := Lib.hid hP
  have hts : t.size ≤ 1000000 := by rw [Lib.size_eq, htl]; omega
  clear hP ht hlen
  cases hc : t.data.toList.contains 46 with
  | false =>
    have hf : floatT s.data.toList = (0, 2) := by
      unfold floatT
      rw [← htl, hc]
      rfl
    rw [hf]
    have HC := Lib.hid (cutL_no t hc w)
    clear hf hc hs hts hT htl
    go_enter Tryz.func30, Tryz.ntmps30
    go_wp2_with (first
      | (go_at_call 32; refine HP.out.mono ?_; rintro e w1 ⟨rfl, rfl⟩)
      | (go_at_call 38; refine HC.out.mono ?_; rintro e w2 ⟨rfl, rfl⟩))
    go_ret2
    exact ⟨rfl, Below.refl _ _⟩
  | true =>
    have hsp := cut_split hc
    have hsg := sign_split s.data.toList
    rw [← htl] at hsg
    have HC := Lib.hid (cutL_yes t hc (by omega) w)
    have hf : floatT s.data.toList = if digs (cutA t.data.toList) && digs (cutB t.data.toList) then
        if 15 < (cutA t.data.toList).length + (cutB t.data.toList).length then (0, 4)
        else (signed2 (signB s.data.toList) (quotR (dval 0 (cutA t.data.toList ++ cutB t.data.toList)) (cutB t.data.toList).length), 0) else (0, 2) := by
      unfold floatT
      rw [← htl, hc]
      rfl
    rw [hf]
    have hln : t.size = (cutA t.data.toList).length + (cutB t.data.toList).length + 1 := by
      rw [Lib.size_eq]
      conv => lhs; rw [hsp]
      simp; omega
    clear hc hf htl
    generalize cutA t.data.toList = A at *
    generalize cutB t.data.toList = B at *
    generalize signB s.data.toList = neg at *
    obtain ⟨a, ha⟩ : ∃ a : ByteArray, a = ⟨A.toArray⟩ := ⟨_, rfl⟩
    obtain ⟨b, hb⟩ : ∃ b : ByteArray, b = ⟨B.toArray⟩ := ⟨_, rfl⟩
    have hal : a.data.toList = A := by rw [ha]
    have hbl : b.data.toList = B := by rw [hb]
    have hasz : a.size = A.length := by rw [Lib.size_eq, hal]
    have hbsz : b.size = B.length := by rw [Lib.size_eq, hbl]
    rw [← ha, ← hb] at HC
    have HA : Hid (∀ W, Calls Tryz.prog 36 #[.string a] W fun e w' => e = .returned (.bool (digs A)) ∧ Below W.heap.size W w') := fun W => by
      have := digits_any a (by omega) W
      rwa [hal] at this
    have HB : Hid (∀ W, Calls Tryz.prog 36 #[.string b] W fun e w' => e = .returned (.bool (digs B)) ∧ Below W.heap.size W w') := fun W => by
      have := digits_any b (by omega) W
      rwa [hbl] at this
    have HX : Hid (digs A = true → digs B = true → A.length + B.length ≤ 15 → ∀ W, FTab W → Calls Tryz.prog 39 #[.string s, .int .i64 64] W fun e w' => e = .returned (.tuple #[.float .f64 (signed2 neg (quotR (dval 0 (A ++ B)) B.length)), .nilIface]) ∧ W = w') := fun h1 h2 h3 W hW => by
      unfold digs at h1 h2
      rw [Bool.and_eq_true] at h1 h2
      refine parseFloat_any s neg A B ⟨by rw [hsg, hsp], h1.2, h2.2, ?_, ?_, h3⟩ W hW
      · rintro rfl; simp at h1
      · rintro rfl; simp at h2
    have HO : Hid (digs A = true → digs B = true → A.length + B.length ≤ 15 → isNan (signed2 neg (quotR (dval 0 (A ++ B)) B.length)) = false) := fun h1 h2 h3 => by
      unfold digs at h1 h2
      rw [Bool.and_eq_true] at h1 h2
      have hv : dval 0 (A ++ B) < 9007199254740992 := by
        have h1 := dval_lt (A ++ B) 0 (by rw [List.all_append, h1.2, h2.2]; rfl)
        have h2 : 10 ^ (A ++ B).length ≤ 10 ^ 15 := Nat.pow_le_pow_right (by omega) (by rw [List.length_append]; exact h3)
        have h3 : (10 : Nat) ^ 15 = 1000000000000000 := by decide
        omega
      exact signed2_not_nan (quotR_facts hv (by omega)).1
    have hA0 : (a.size : Int) ≤ 1000000 := by omega
    have hB0 : (b.size : Int) ≤ 1000000 := by omega
    have hAI : (a.size : Int) = (A.length : Int) := by omega
    have hBI : (b.size : Int) = (B.length : Int) := by omega
    have hTH := Lib.hid hT
    clear hsp hsg hln hal hbl hasz hbsz ha hb hs hts hT
    cases hdA : digs A with
    | false =>
      rw [hdA] at HA
      rw [Bool.false_and, if_neg (by simp)]
      clear hdA HX HO HB hAI hBI
      go_enter Tryz.func30, Tryz.ntmps30
      go_wp2_with (first
        | (go_at_call 32; refine HP.out.mono ?_; rintro e w1 ⟨rfl, rfl⟩)
        | (go_at_call 38; refine HC.out.mono ?_; rintro e w2 ⟨rfl, hb⟩; have HB1 := Lib.hid hb; clear hb)
        | (go_at_call 36; (with_reducible refine (HA.out _).mono ?_); rintro e w3 ⟨rfl, hb⟩; have HB2 := Lib.hid hb; clear hb HA))
      go_ret2
      exact ⟨rfl, below_then HB1.out HB2.out⟩
    | true =>
      rw [hdA] at HA
      cases hdB : digs B with
      | false =>
        rw [hdB] at HB
        rw [Bool.true_and, if_neg (by simp)]
        clear hdA hdB HX HO hAI hBI
        go_enter Tryz.func30, Tryz.ntmps30
        go_wp2_with (first
          | (go_at_call 32; refine HP.out.mono ?_; rintro e w1 ⟨rfl, rfl⟩)
          | (go_at_call 38; refine HC.out.mono ?_; rintro e w2 ⟨rfl, hb⟩; have HB1 := Lib.hid hb; clear hb)
          | (go_at_call 36; (with_reducible refine (HA.out _).mono ?_); rintro e w3 ⟨rfl, hb⟩; have HB2 := Lib.hid hb; clear hb HA)
          | (go_at_call 36; (with_reducible refine (HB.out _).mono ?_); rintro e w4 ⟨rfl, hb⟩; have HB3 := Lib.hid hb; clear hb HB))
        go_ret2
        exact ⟨rfl, below_then (below_then HB1.out HB2.out) HB3.out⟩
      | true =>
        rw [hdB] at HB
        rw [Bool.true_and, if_pos rfl]
        replace HX := Lib.hid (HX.out hdA hdB)
        replace HO := Lib.hid (HO.out hdA hdB)
        clear hdA hdB
        by_cases hgt : 15 < A.length + B.length
        · rw [if_pos hgt]
          have h1 : (15 : Int) < (a.size : Int) + (b.size : Int) := by omega
          clear hgt HX HO hAI hBI
          go_enter Tryz.func30, Tryz.ntmps30
          go_wp2_with (first
            | (go_at_call 32; refine HP.out.mono ?_; rintro e w1 ⟨rfl, rfl⟩)
            | (go_at_call 38; refine HC.out.mono ?_; rintro e w2 ⟨rfl, hb⟩; have HB1 := Lib.hid hb; clear hb)
            | (go_at_call 36; (with_reducible refine (HA.out _).mono ?_); rintro e w3 ⟨rfl, hb⟩; have HB2 := Lib.hid hb; clear hb HA)
            | (go_at_call 36; (with_reducible refine (HB.out _).mono ?_); rintro e w4 ⟨rfl, hb⟩; have HB3 := Lib.hid hb; clear hb HB))
          go_ret2
          exact ⟨rfl, below_then (below_then HB1.out HB2.out) HB3.out⟩
        · rw [if_neg hgt]
          have h1 : ¬ (15 : Int) < (a.size : Int) + (b.size : Int) := by omega
          replace HX := Lib.hid (HX.out (by omega))
          replace HO := Lib.hid (HO.out (by omega))
          clear hgt hAI hBI
          go_enter Tryz.func30, Tryz.ntmps30
          go_wp2_with (first
            | (go_at_call 32; refine HP.out.mono ?_; rintro e w1 ⟨rfl, rfl⟩)
            | (go_at_call 38; refine HC.out.mono ?_; rintro e w2 ⟨rfl, hb⟩; have HB1 := Lib.hid hb; clear hb)
            | (go_at_call 36; (with_reducible refine (HA.out _).mono ?_); rintro e w3 ⟨rfl, hb⟩; have HB2 := Lib.hid hb; clear hb HA)
            | (go_at_call 36; (with_reducible refine (HB.out _).mono ?_); rintro e w4 ⟨rfl, hb⟩; have HB3 := Lib.hid hb; clear hb HB)
            | (go_at_call 39; refine (HX.out _ (hTH.out.below (below_then (below_then HB1.out HB2.out) HB3.out))).mono ?_; rintro e w5 ⟨rfl, rfl⟩)
            | (go_at_call 40; refine (ofF_any _ HO.out _).mono ?_; rintro e w6 ⟨rfl, rfl⟩))
          go_ret2
          exact ⟨rfl, below_then (below_then HB1.out HB2.out) HB3.out⟩
end Go.Proofs.YtlailomhgipppaaGreatDoor
