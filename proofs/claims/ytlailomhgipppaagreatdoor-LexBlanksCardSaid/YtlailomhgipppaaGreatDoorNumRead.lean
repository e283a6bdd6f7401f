/- num.Read and the reference's Read: both give readF. -/
import Derived.Test.YtlailomhgipppaaGreatDoorParseI
import Derived.Test.YtlailomhgipppaaGreatDoorDgt
namespace Go.Proofs.YtlailomhgipppaaGreatDoor
open Go.RowKit
set_option linter.unusedVariables false
set_option linter.unusedSimpArgs false

/-- The library's variable holds an error, or none. -/
def ErrVar (w : World) : Prop := ∃ ev, w.cell? ⟨3, 0, none⟩ = some ev ∧ (ev = .nilIface ∨ ∃ te pe, ev = .iface te pe)
theorem ErrVar.below {w w' : World} (h : ErrVar w) (hb : Below w.heap.size w w') : ErrVar w' := by
  obtain ⟨ev, h1, h2⟩ := h
  exact ⟨ev, (hb.cell (p := ⟨3, 0, none⟩) (lt_of_cell' h1)).trans h1, h2⟩
def IntEndP (r : Int × Int) (w : World) (e : Ending) (w' : World) : Prop :=
  (r.2 = 0 ∧ e = .returned (.tuple #[.int .i64 r.1, .nilIface]) ∨ r.2 = 4 ∧ ∃ x T p, e = .returned (.tuple #[.int .i64 x, .iface T p])) ∧ Below w.heap.size w w'
set_option maxRecDepth 100000 in
set_option maxHeartbeats 1600000 in
theorem parseInt_any (s : ByteArray) (h1 : unsignedT s.data.toList ≠ []) (h2 : (unsignedT s.data.toList).all isDig = true) (hmax : s.size ≤ 1000000) (w : World) (hE : ErrVar w) :
    Calls Tryz.prog 37 #[.string s, .int .i64 10, .int .i64 63] w (IntEndP (readF s.data.toList) w) := by
  have HI := Lib.hid (parseIntI_any s h1 h2 hmax w)
  have HTE : Hid (∀ W, Below w.heap.size w W → Calls Tryz.prog 44 #[.string ⟨#[80, 97, 114, 115, 101, 73, 110, 116]⟩, .string s, .int .i64 10, .int .i64 63, .iface 88 (.int .i64 1)] W fun e w' => (∃ N, e = .returned (.iface 91 (.pointer (some ⟨N, 0, none⟩)))) ∧ Below W.heap.size W w') := fun W hW => by
    obtain ⟨ev, h3, h4⟩ := hE.below hW
    refine (Tryz.strconv_toError_range ⟨#[80, 97, 114, 115, 101, 73, 110, 116]⟩ s 10 63 ev W (by omega) h3 h4).mono ?_
    rintro e w' ⟨N, he, _, _, hb⟩
    exact ⟨⟨N, he⟩, hb⟩
  generalize readF s.data.toList = r at HI ⊢
  clear h1 h2 hE hmax
  by_cases hr : r.2 = 0
  · have HI0 : Hid (Calls Tryz.prog 43 #[.string s, .int .i64 10, .int .i64 63] w fun e w' => e = .returned (.tuple #[.int .i64 r.1, .nilIface]) ∧ Below w.heap.size w w') := HI.out.mono fun e w' ⟨h, hb⟩ => by
      rcases h with ⟨_, h⟩ | ⟨h, _⟩
      · exact ⟨h, hb⟩
      · omega
    have HR := Lib.hid hr
    clear HI HTE hr
    go_enter Tryz.func37, Tryz.ntmps37
    go_wp2_with (go_at_call 43; refine HI0.out.mono ?_; rintro e w1 ⟨rfl, hb⟩; have HB := Lib.hid hb; clear hb)
    go_ret2
    exact ⟨.inl ⟨HR.out, rfl⟩, HB.out⟩
  · have HI0 : Hid (Calls Tryz.prog 43 #[.string s, .int .i64 10, .int .i64 63] w fun e w' => (∃ x, e = .returned (.tuple #[.int .i64 x, .iface 88 (.int .i64 1)])) ∧ r.2 = 4 ∧ Below w.heap.size w w') := HI.out.mono fun e w' ⟨h, hb⟩ => by
      rcases h with ⟨h, _⟩ | ⟨h4, h⟩
      · exact absurd h hr
      · exact ⟨h, h4, hb⟩
    clear HI hr
    go_enter Tryz.func37, Tryz.ntmps37
    go_wp2_with (first
      | (go_at_call 43; refine HI0.out.mono ?_; rintro e w1 ⟨⟨x, rfl⟩, h4, hb⟩; have HB := Lib.hid hb; have H4 := Lib.hid h4; clear hb h4)
      | (go_at_call 44; refine (HTE.out _ HB.out).mono ?_; rintro e w2 ⟨⟨N, rfl⟩, hb⟩; have HB2 := Lib.hid hb; clear hb))
    go_ret2
    exact ⟨.inr ⟨H4.out, _, _, _, rfl⟩, below_then HB.out HB2.out⟩
theorem readF_bad {l : List UInt8} (h : (!(unsignedT l).isEmpty && (unsignedT l).all isDig) = false) : readF l = (0, 2) := by
  unfold readF
  rw [if_pos]
  cases hu : unsignedT l with
  | nil => exact .inl rfl
  | cons c r =>
    rw [hu] at h
    exact .inr (by simpa using h)
theorem readF_err (l : List UInt8) : (readF l).2 ≠ 0 → (readF l).1 = 0 := by
  unfold readF
  intro h
  split at h
  · rename_i h1; rw [if_pos h1]
  · rename_i h1
    rw [if_neg h1]
    split at h
    · rename_i h2
      rw [if_pos h2]
      split at h
      · rename_i h3; rw [if_pos h3]
      · exact absurd rfl h
    · rename_i h2
      rw [if_neg h2]
      split at h
      · rename_i h3; rw [if_pos h3]
      · exact absurd rfl h
set_option maxRecDepth 100000 in
set_option maxHeartbeats 1600000 in
theorem numRead_any (s : ByteArray) (hmax : s.size ≤ 1000000) (w : World) (hE : ErrVar w) :
    Calls Tryz.prog 29 #[.string s] w fun e w' => e = .returned (.tuple #[.int .i64 (readF s.data.toList).1, .int .i64 (readF s.data.toList).2]) ∧ Below w.heap.size w w' := by
  have hP := Tryz.strings_TrimPrefix s ⟨#[45]⟩ w
  rw [show (⟨#[45]⟩ : ByteArray).data.toList = [45] from rfl, trimPrefix_sign] at hP
  obtain ⟨t, ht⟩ : ∃ t : ByteArray, t = ⟨(unsignedT s.data.toList).toArray⟩ := ⟨_, rfl⟩
  have htl : t.data.toList = unsignedT s.data.toList := by rw [ht]
  rw [← ht] at hP
  have hlen : (unsignedT s.data.toList).length ≤ s.size := by
    rw [Lib.size_eq]
    unfold unsignedT
    split
    · rw [List.length_tail]; omega
    · exact Nat.le_refl _
  have hD := digits_any t (by rw [Lib.size_eq, htl]; omega) w
  rw [htl] at hD
  have HP := Lib.hid hP
  clear hP ht
  cases hb : (!(unsignedT s.data.toList).isEmpty && (unsignedT s.data.toList).all isDig) with
  | false =>
    have HR := Lib.hid (readF_bad hb)
    rw [hb] at hD
    have HD := Lib.hid hD
    clear hD hb htl hlen
    go_enter Tryz.func29, Tryz.ntmps29
    go_wp2_with (first
      | (go_at_call 32; refine HP.out.mono ?_; rintro e w1 ⟨rfl, rfl⟩)
      | (go_at_call 36; refine HD.out.mono ?_; rintro e w2 ⟨rfl, hb⟩; have HB := Lib.hid hb; clear hb))
    go_ret2
    exact ⟨by rw [HR.out]; rfl, HB.out⟩
  | true =>
    rw [hb] at hD
    have HD := Lib.hid hD
    rw [Bool.and_eq_true] at hb
    have hPI : Hid (∀ W, Below w.heap.size w W → Calls Tryz.prog 37 #[.string s, .int .i64 10, .int .i64 63] W (IntEndP (readF s.data.toList) W)) := fun W hW => parseInt_any s (by intro e; rw [e] at hb; exact absurd hb.1 (by decide)) hb.2 hmax W (hE.below hW)
    have HRZ : Hid ((readF s.data.toList).2 ≠ 0 → (readF s.data.toList).1 = 0) := readF_err s.data.toList
    generalize readF s.data.toList = r at hPI HRZ ⊢
    clear hD hb htl hlen
    by_cases hr : r.2 = 0
    · have HI0 : Hid (∀ W, Below w.heap.size w W → Calls Tryz.prog 37 #[.string s, .int .i64 10, .int .i64 63] W fun e w' => e = .returned (.tuple #[.int .i64 r.1, .nilIface]) ∧ Below W.heap.size W w') := fun W hW => (hPI.out W hW).mono fun e w' ⟨h, hb⟩ => by
        rcases h with ⟨_, h⟩ | ⟨h, _⟩
        · exact ⟨h, hb⟩
        · omega
      have HR := Lib.hid hr
      clear hPI hr
      go_enter Tryz.func29, Tryz.ntmps29
      go_wp2_with (first
        | (go_at_call 32; refine HP.out.mono ?_; rintro e w1 ⟨rfl, rfl⟩)
        | (go_at_call 36; refine HD.out.mono ?_; rintro e w2 ⟨rfl, hb⟩; have HB := Lib.hid hb; clear hb)
        | (go_at_call 37; refine (HI0.out _ HB.out).mono ?_; rintro e w3 ⟨rfl, hb⟩; have HB2 := Lib.hid hb; clear hb))
      go_ret2
      exact ⟨by rw [HR.out]; rfl, below_then HB.out HB2.out⟩
    · have HI0 : Hid (∀ W, Below w.heap.size w W → Calls Tryz.prog 37 #[.string s, .int .i64 10, .int .i64 63] W fun e w' => (∃ x T p, e = .returned (.tuple #[.int .i64 x, .iface T p])) ∧ r.2 = 4 ∧ Below W.heap.size W w') := fun W hW => (hPI.out W hW).mono fun e w' ⟨h, hb⟩ => by
        rcases h with ⟨h, _⟩ | ⟨h4, h⟩
        · exact absurd h hr
        · exact ⟨h, h4, hb⟩
      have HR1 : Hid (r.1 = 0) := HRZ.out hr
      clear hPI hr
      go_enter Tryz.func29, Tryz.ntmps29
      go_wp2_with (first
        | (go_at_call 32; refine HP.out.mono ?_; rintro e w1 ⟨rfl, rfl⟩)
        | (go_at_call 36; refine HD.out.mono ?_; rintro e w2 ⟨rfl, hb⟩; have HB := Lib.hid hb; clear hb)
        | (go_at_call 37; refine (HI0.out _ HB.out).mono ?_; rintro e w3 ⟨⟨x, T, p, rfl⟩, h4, hb⟩; have HB2 := Lib.hid hb; have H4 := Lib.hid h4; clear hb h4))
      go_ret2
      exact ⟨by rw [H4.out, HR1.out]; rfl, below_then HB.out HB2.out⟩
end Go.Proofs.YtlailomhgipppaaGreatDoor
