/- strconv.ParseInt of digits, at 63 bits. -/
import Derived.Test.YtlailomhgipppaaGreatDoorParse
import Derived.Test.YtlailomhgipppaaGreatDoorShelf
namespace Go.Proofs.YtlailomhgipppaaGreatDoor
open Go.RowKit
set_option linter.unusedVariables false
set_option linter.unusedSimpArgs false

theorem bytesWorld_below (w : World) (e : TypeId) (t : ByteArray) : Below w.heap.size w (Lib.bytesWorld w e t) := by
  refine ⟨rfl, rfl, rfl, ?_, fun i hi => Lib.bytesWorld_at_old w e t i hi⟩
  simp [Lib.bytesWorld, World.freeze, World.alloc, World.drew, -World.alloc_eq, -World.drew_eq]
/-- What ParseInt hands back. -/
def IntEnd (r : Int × Int) (w : World) (e : Ending) (w' : World) : Prop :=
  (r.2 = 0 ∧ e = .returned (.tuple #[.int .i64 r.1, .nilIface]) ∨ r.2 = 4 ∧ ∃ x, e = .returned (.tuple #[.int .i64 x, .iface 88 (.int .i64 1)])) ∧ Below w.heap.size w w'
theorem signed_u64 {a : Int} (h0 : 0 ≤ a) (h1 : a ≤ 9223372036854775807) : wrap64 a = a := by unfold wrap64; omega
set_option maxRecDepth 100000 in
set_option maxHeartbeats 1600000 in
theorem parseIntI_any (s : ByteArray) (h1 : unsignedT s.data.toList ≠ []) (h2 : (unsignedT s.data.toList).all isDig = true) (hmax : s.size ≤ 1000000) (w : World) :
    Calls Tryz.prog 43 #[.string s, .int .i64 10, .int .i64 63] w (IntEnd (readF s.data.toList) w) := by
  have hq1 : ∀ W, (binOp .neq 71 (.iface 88 (.int .i64 1)) (.iface 88 (.int .i64 1))).run Tryz.prog W = .ok (.bool false) W := fun W => Lib.run_neq_iface_int W 1 1 Tryz.underlying71 (by kernel_rfl) Tryz.underlying88
  have hne : s.size ≠ 0 := by
    intro e
    have : s.data.toList = [] := List.eq_nil_of_length_eq_zero (by rw [← Lib.size_eq]; exact e)
    rw [this] at h1
    exact h1 rfl
  have hemp : s.toList.isEmpty = false := by
    rw [← decide_eq_emptyBytes]
    exact decide_eq_false (fun h => hne (by rw [h]; rfl))
  have hpos : 0 < s.size := by omega
  obtain ⟨c, r, hL⟩ : ∃ c r, s.data.toList = c :: r := by
    cases h : s.data.toList with
    | nil => exact absurd (by rw [Lib.size_eq, h]; rfl) hne
    | cons c r => exact ⟨c, r, rfl⟩
  have hsz : s.size = r.length + 1 := by rw [Lib.size_eq, hL]; rfl
  have hs0 : s[0]'hpos = c := by have := Lib.getD_at s 0 hpos; rw [hL] at this; exact this
  rw [hL] at h1 h2 ⊢
  by_cases h45 : c = 45
  · subst h45
    have hu : unsignedT (45 :: r) = r := rfl
    rw [hu] at h1 h2
    have hsl : ∀ W, (Instr.slice 9 (.string s) (some (.int .i64 1)) none none).run Tryz.prog W = .ok (.string (s.extract 1 s.size)) W := fun W => by
      rw [run_slice_string_from_if W 9 s .i64 _ Tryz.underlying9, if_pos ⟨by omega, by omega⟩]
      rfl
    have htl : (s.extract 1 s.size).data.toList = r := by
      rw [Lib.extract_data, hL, List.drop_succ_cons, List.drop_zero, List.take_of_length_le (by omega)]
    have hts : (s.extract 1 s.size).size = r.length := by rw [Lib.size_eq, htl]
    generalize s.extract 1 s.size = t at hsl htl hts
    have hrn : r.length ≠ 0 := fun e => h1 (List.eq_nil_of_length_eq_zero e)
    have HU := Lib.hid (parseUint_any t (by rw [htl]; exact h2) (by omega) (by omega) w)
    rw [htl] at HU
    have HR : Hid (readF (45 :: r) = if 4611686018427387904 < dval 0 r then (0, 4) else (-(dval 0 r : Int), 0)) := by
      have hc : ¬ (r = [] ∨ r.all isDig = false) := by simp [h1, h2]
      show _ = _
      unfold readF
      rw [hu, if_neg hc, if_pos (head45 _)]
    have HBW := Lib.hid (bytesWorld_below w 5 t)
    clear hL h1 h2 htl hu hsz hne hrn hmax
    generalize dval 0 r = n at HU HR
    unfold uEnd at HU
    obtain ⟨a, ha⟩ : ∃ a : Int, a = (n : Int) := ⟨_, rfl⟩
    rw [← ha] at HU HR
    by_cases b1 : n ≤ 9223372036854775807
    · rw [if_pos b1] at HU
      have a0 : 0 ≤ a := by omega
      have a1 : a ≤ 9223372036854775807 := by omega
      by_cases b2 : 4611686018427387904 < n
      · rw [if_pos b2] at HR
        have a2 : 4611686018427387904 < a := by omega
        clear b1 b2 ha
        go_enter Tryz.func43, Tryz.ntmps43
        go_wp2_with (go_at_call 56; refine HU.out.mono ?_; rintro e w1 ⟨rfl, rfl⟩)
        go_ret2
        refine ⟨.inr ⟨by rw [HR.out], _, rfl⟩, HBW.out⟩
      · rw [if_neg b2] at HR
        have a2 : a ≤ 4611686018427387904 := by omega
        have hwn : wrap64 (-a) = -a := by unfold wrap64; omega
        clear b1 b2 ha
        go_enter Tryz.func43, Tryz.ntmps43
        go_wp2_with (go_at_call 56; refine HU.out.mono ?_; rintro e w1 ⟨rfl, rfl⟩)
        go_ret2
        refine ⟨.inl ⟨by rw [HR.out], by rw [HR.out]; rfl⟩, HBW.out⟩
    · rw [if_neg b1] at HU
      rw [if_pos (by omega)] at HR
      clear b1 ha
      go_enter Tryz.func43, Tryz.ntmps43
      go_wp2_with (go_at_call 56; refine HU.out.mono ?_; rintro e w1 ⟨rfl, rfl⟩)
      go_ret2
      refine ⟨.inr ⟨by rw [HR.out], _, rfl⟩, HBW.out⟩
  · have hu : unsignedT (c :: r) = c :: r := by unfold unsignedT; rw [if_neg (head_ne h45 _)]
    rw [hu] at h1 h2
    have hd : 48 ≤ c.toNat ∧ c.toNat ≤ 57 := by rw [List.all_cons, Bool.and_eq_true, isDig_iff] at h2; exact h2.1
    have HU := Lib.hid (parseUint_any s (by rw [hL]; exact h2) hne (by omega) w)
    rw [hL] at HU
    have HR : Hid (readF (c :: r) = if 4611686018427387904 ≤ dval 0 (c :: r) then (0, 4) else ((dval 0 (c :: r) : Int), 0)) := by
      have hc : ¬ (c :: r = [] ∨ (c :: r).all isDig = false) := by rw [h2]; simp
      show _ = _
      unfold readF
      rw [hu, if_neg hc, if_neg (head_ne h45 _)]
    have HBW := Lib.hid (bytesWorld_below w 5 s)
    have i43 : ¬ (c.toNat : Int) = 43 := by omega
    have i45 : ¬ (c.toNat : Int) = 45 := by omega
    clear hL h1 h2 hu hsz hne hmax hd h45
    generalize dval 0 (c :: r) = n at HU HR
    unfold uEnd at HU
    obtain ⟨a, ha⟩ : ∃ a : Int, a = (n : Int) := ⟨_, rfl⟩
    rw [← ha] at HU HR
    by_cases b1 : n ≤ 9223372036854775807
    · rw [if_pos b1] at HU
      have a0 : 0 ≤ a := by omega
      have a1 : a ≤ 9223372036854775807 := by omega
      by_cases b2 : 4611686018427387904 ≤ n
      · rw [if_pos b2] at HR
        have a2 : 4611686018427387904 ≤ a := by omega
        clear b1 b2 ha
        go_enter Tryz.func43, Tryz.ntmps43
        go_wp2_with (go_at_call 56; refine HU.out.mono ?_; rintro e w1 ⟨rfl, rfl⟩)
        go_ret2
        refine ⟨.inr ⟨by rw [HR.out], _, rfl⟩, HBW.out⟩
      · rw [if_neg b2] at HR
        have a2 : a < 4611686018427387904 := by omega
        clear b1 b2 ha
        go_enter Tryz.func43, Tryz.ntmps43
        go_wp2_with (go_at_call 56; refine HU.out.mono ?_; rintro e w1 ⟨rfl, rfl⟩)
        go_ret2
        refine ⟨.inl ⟨by rw [HR.out], by rw [HR.out]; rfl⟩, HBW.out⟩
    · rw [if_neg b1] at HU
      rw [if_pos (by omega)] at HR
      clear b1 ha
      go_enter Tryz.func43, Tryz.ntmps43
      go_wp2_with (go_at_call 56; refine HU.out.mono ?_; rintro e w1 ⟨rfl, rfl⟩)
      go_ret2
      refine ⟨.inr ⟨by rw [HR.out], _, rfl⟩, HBW.out⟩
end Go.Proofs.YtlailomhgipppaaGreatDoor
