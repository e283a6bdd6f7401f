/- num.digits. -/
import Derived.Test.YtlailomhgipppaaGreatDoorKit
import Derived.Test.YtlailomhgipppaaGreatDoorShelf
import Derived.Shelf.Strings.SlTrimAscii
namespace Go.Proofs.YtlailomhgipppaaGreatDoor
open Go.RowKit
set_option linter.unusedVariables false
set_option linter.unusedSimpArgs false

theorem dropWhile_all {p : UInt8 → Bool} : ∀ {l : List UInt8}, (∀ x ∈ l.dropWhile p, p x = true) → ∀ x ∈ l, p x = true
  | [], _, x, hx => by cases hx
  | a :: l, h, x, hx => by
    by_cases ha : p a = true
    · rw [List.dropWhile_cons_of_pos ha] at h
      rcases List.mem_cons.1 hx with rfl | hx
      · exact ha
      · exact dropWhile_all h x hx
    · rw [List.dropWhile_cons_of_neg ha] at h
      exact h x hx
theorem dropWhile_nil {p : UInt8 → Bool} : ∀ {l : List UInt8}, (∀ x ∈ l, p x = true) → l.dropWhile p = []
  | [], _ => rfl
  | a :: l, h => by
    rw [List.dropWhile_cons_of_pos (h a (by simp))]
    exact dropWhile_nil fun x hx => h x (by simp [hx])
theorem trimS_nil (l cs : List UInt8) : Lib.trimS l cs = [] ↔ ∀ c ∈ l, cs.contains c = true := by
  unfold Lib.trimS Lib.trimLeftS Lib.trimRightS
  constructor
  · intro h
    have h1 : ∀ x ∈ (l.reverse.dropWhile (cs.contains ·)).reverse, cs.contains x = true := dropWhile_all (by rw [h]; intro x hx; cases hx)
    have h2 : ∀ x ∈ l.reverse, cs.contains x = true := dropWhile_all fun x hx => h1 x (List.mem_reverse.2 hx)
    exact fun c hc => h2 c (by simpa using hc)
  · intro h
    rw [dropWhile_nil (l := l.reverse) fun x hx => h x (by simpa using hx)]
    rfl
theorem isDig_contains (c : UInt8) : ([48, 49, 50, 51, 52, 53, 54, 55, 56, 57] : List UInt8).contains c = isDig c := by
  rw [Bool.eq_iff_iff, isDig_iff]
  simp only [List.contains_eq_mem, decide_eq_true_eq, List.mem_cons, List.not_mem_nil, or_false, ← UInt8.toNat_inj]
  simp
  omega
theorem emp_iff (x : ByteArray) : x.toList.isEmpty = x.data.toList.isEmpty := by rw [ByteArray.toList_eq]
theorem trim_digits (l : List UInt8) : (Lib.trimS l [48, 49, 50, 51, 52, 53, 54, 55, 56, 57]).isEmpty = l.all isDig := by
  rw [Bool.eq_iff_iff, List.isEmpty_iff, trimS_nil, List.all_eq_true]
  constructor
  · intro h c hc; rw [← isDig_contains]; exact h c hc
  · intro h c hc; rw [isDig_contains]; exact h c hc
set_option maxRecDepth 100000 in
set_option maxHeartbeats 1600000 in
theorem digits_any (s : ByteArray) (hs : s.size ≤ 1000000) (w : World) : Calls Tryz.prog 36 #[.string s] w fun e w' => e = .returned (.bool (!s.data.toList.isEmpty && s.data.toList.all isDig)) ∧ Below w.heap.size w w' := by
  have HT := Lib.hid (Any.strings_Trim_laid Tryz.lays160 (by kernel_rfl) s ⟨#[48, 49, 50, 51, 52, 53, 54, 55, 56, 57]⟩ w (by omega) (by decide) (ascii_of_all (by decide)))
  have e0 : s.toList.isEmpty = s.data.toList.isEmpty := emp_iff s
  have e1 := emp_iff ⟨(Lib.trimS s.data.toList [48, 49, 50, 51, 52, 53, 54, 55, 56, 57]).toArray⟩
  rw [show (⟨(Lib.trimS s.data.toList [48, 49, 50, 51, 52, 53, 54, 55, 56, 57]).toArray⟩ : ByteArray).data.toList = Lib.trimS s.data.toList [48, 49, 50, 51, 52, 53, 54, 55, 56, 57] from rfl, trim_digits] at e1
  generalize (⟨(Lib.trimS s.data.toList [48, 49, 50, 51, 52, 53, 54, 55, 56, 57]).toArray⟩ : ByteArray) = t at HT e1
  cases hb : s.data.toList.isEmpty with
  | true =>
    rw [hb] at e0
    clear hb e1 HT
    go_enter Tryz.func36, Tryz.ntmps36
    go_wp2
    go_ret
    exact ⟨rfl, Below.refl _ _⟩
  | false =>
    rw [hb] at e0
    obtain ⟨q, hq⟩ : ∃ q, q = s.data.toList.all isDig := ⟨_, rfl⟩
    rw [← hq] at e1 ⊢
    clear hb hq
    cases q
    · go_enter Tryz.func36, Tryz.ntmps36
      go_wp2_with (go_at_call 42; refine HT.out.mono ?_; rintro e w1 ⟨rfl, hb⟩; have HB := Lib.hid hb; clear hb)
      go_ret
      exact ⟨rfl, HB.out⟩
    · go_enter Tryz.func36, Tryz.ntmps36
      go_wp2_with (go_at_call 42; refine HT.out.mono ?_; rintro e w1 ⟨rfl, hb⟩; have HB := Lib.hid hb; clear hb)
      go_ret
      exact ⟨rfl, HB.out⟩
theorem lt_of_cell' {w : World} {q j : Nat} {v : Value} (h : w.cell? ⟨q, j, none⟩ = some v) : q < w.heap.size := by
  rcases Nat.lt_or_ge q w.heap.size with hlt | hge
  · exact hlt
  · unfold World.cell? at h; rw [Array.getElem?_eq_none hge] at h; cases h
theorem below_then {a w w' : World} (h : Below a.heap.size a w) (h' : Below w.heap.size w w') : Below a.heap.size a w' := h.trans (h'.mono h.size)
theorem trimPrefix_sign (l : List UInt8) : Lib.trimPrefix l [45] = unsignedT l := by
  unfold Lib.trimPrefix unsignedT Lib.hasPrefix
  cases l with
  | nil => rfl
  | cons c r =>
    by_cases h : c = 45
    · subst h
      simp
    · simp [h, Ne.symm h]
end Go.Proofs.YtlailomhgipppaaGreatDoor
