/- The program's reader: numbers. -/
import Derived.Test.YtofmbpmmgpbdbaaDoorRdProg2
namespace Go.Proofs.YtofmbpmmgpbdbaaDoor
open Go.RowKit Go.Maps Wr
set_option linter.unusedVariables false
variable {M : Nat}

theorem RawEnd.ok {w w' : World} {b r : List UInt8} {u k : Nat} {e : Ending} (h : RawEnd w b e w') (hr : rdv 10 0 0 b = .ok (u, r)) (hk : b.length - r.length = k) : e = .returned (.tuple #[.int .u64 (u : Nat), .int .i64 (k : Nat), .int .i64 0]) ∧ w = w' := by
  subst hk
  rcases h with ⟨u', r', h1, h2, h3⟩ | ⟨x, h1, _⟩
  · rw [hr] at h1
    simp only [Except.ok.injEq, Prod.mk.injEq] at h1
    obtain ⟨rfl, rfl⟩ := h1
    exact ⟨h2, h3⟩
  · rw [hr] at h1; cases h1
theorem RawEnd.err {w w' : World} {b : List UInt8} {x : Int} {e : Ending} (h : RawEnd w b e w') (hr : rdv 10 0 0 b = .error x) : x ≠ 0 ∧ e = .returned (.tuple #[.int .u64 0, .int .i64 0, .int .i64 x]) ∧ w = w' := by
  rcases h with ⟨n', r', h1, _⟩ | ⟨x', h1, h2, h3, h4⟩
  · rw [hr] at h1; cases h1
  · rw [hr] at h1
    simp only [Except.error.injEq] at h1
    subst h1
    exact ⟨h2, h3, h4⟩
def WNumEnd (M : Nat) (w : World) (p : Nat) (b : List UInt8) (lo hi : Int) (e : Ending) (w' : World) : Prop :=
  (∃ n r, rdNum lo hi b = .ok (n, r) ∧ e = .returned (.int .i64 n) ∧ InW M w' p r 0 ∧ Chg [p] w w') ∨ (∃ x, rdNum lo hi b = .error x ∧ x ≠ 0 ∧ e = .returned (.int .i64 0) ∧ InW M w' p b x ∧ Chg [p] w w')
theorem rdv_lt : ∀ (f k u : Nat) (b : List UInt8) (v : Nat) (r : List UInt8), f + k = 10 → u < 2 ^ (7 * k) → rdv f k u b = .ok (v, r) → v < 18446744073709551616
  | 0, k, u, b, v, r, _, _, h => by simp [rdv] at h
  | f + 1, k, u, [], v, r, _, _, h => by simp [rdv] at h
  | f + 1, k, u, x :: b, v, r, hf, hu, h => by
    rw [rdv_cons] at h
    have hx := x.toNat_lt
    split at h
    · cases h
    · rename_i h9
      by_cases hk : k = 9
      · subst hk
        have hx1 : x.toNat ≤ 1 := by omega
        rw [if_neg (by omega)] at h
        split at h
        · cases h
        · simp only [Except.ok.injEq, Prod.mk.injEq] at h
          have : (2 : Nat) ^ (7 * 9) = 9223372036854775808 := by decide
          rw [this] at h hu
          have h3 : x.toNat * 9223372036854775808 ≤ 1 * 9223372036854775808 := Nat.mul_le_mul_right _ hx1
          omega
      · have hp63 : (2 : Nat) ^ (7 * (k + 1)) ≤ 2 ^ 63 := Nat.pow_le_pow_right (by omega) (by omega)
        have hp : (2 : Nat) ^ (7 * (k + 1)) = 2 ^ (7 * k) * 128 := by rw [show 7 * (k + 1) = 7 * k + 7 by omega, Nat.pow_add]
        split at h
        · have h3 : (x.toNat % 128 + 1) * 2 ^ (7 * k) ≤ 128 * 2 ^ (7 * k) := Nat.mul_le_mul_right _ (by omega)
          rw [Nat.add_mul] at h3
          exact rdv_lt f (k + 1) _ b v r (by omega) (by omega) h
        · split at h
          · cases h
          · simp only [Except.ok.injEq, Prod.mk.injEq] at h
            have h3 : (x.toNat + 1) * 2 ^ (7 * k) ≤ 128 * 2 ^ (7 * k) := Nat.mul_le_mul_right _ (by omega)
            rw [Nat.add_mul] at h3
            omega
theorem rdv_bits {b r : List UInt8} {u : Nat} (h : rdv 10 0 0 b = .ok (u, r)) : u < 18446744073709551616 ∧ ∃ k, r = b.drop k ∧ k ≤ b.length ∧ 0 < k ∧ b.length - r.length = k := by
  refine ⟨rdv_lt 10 0 0 b u r rfl (by omega) h, ?_⟩
  obtain ⟨v, h1, h2, _⟩ := rdv_sound 10 0 0 b u r h
  have hv : 0 < (var v).length := by
    by_cases h : v < 128
    · rw [var_small h]; simp
    · rw [var_big (by omega)]; simp
  refine ⟨(var v).length, by rw [h2, List.drop_left], by rw [h2, List.length_append]; omega, hv, by rw [h2, List.length_append]; omega⟩
theorem InW.left {w : World} {p : Nat} {b : List UInt8} {e : Int} (h : InW M w p b e) (k : Nat) (hk : k ≤ b.length) {ao : Option Addr} {cap : Nat} (hv : w.cell? ⟨p, 0, none⟩ = some (.slice ao b.length cap))
    {v : Value} (hvv : v = .slice (ao.map (fun x => x.add k)) (b.length - k) (cap - k) ∨ (v = .slice ao (b.length - k) 0 ∧ cap = k)) : InW M (w.setCell ⟨p, 0, none⟩ v) p (b.drop k) e ∧ Chg [p] w (w.setCell ⟨p, 0, none⟩ v) := by
  obtain ⟨v0, hz, ao', cap', rfl, h2, h3, h4⟩ := h
  have hc : Chg [p] w (w.setCell ⟨p, 0, none⟩ v) := Chg.setCell (p := ⟨p, 0, none⟩) (Chg.refl [p] w) (.inl (by simp)) _
  have e0 : w.cell? ⟨p, 0, none⟩ = some (.slice ao' b.length cap') := by simp [World.cell?, hz]
  rw [hv] at e0
  simp only [Option.some.injEq, Value.slice.injEq, true_and] at e0
  obtain ⟨rfl, rfl⟩ := e0
  refine ⟨⟨v, (hdr2_set hz).trans rfl, ?_⟩, hc⟩
  refine BytesAt.chg ?_ hc
  rcases hvv with rfl | ⟨rfl, rfl⟩
  · refine ⟨ao.map (fun x => x.add k), cap - k, by rw [List.length_drop], by rw [List.length_drop]; omega, by omega, fun j hj => ?_⟩
    rw [List.length_drop] at hj
    obtain ⟨g, o, e1, e2, e3, e4⟩ := h4 (k + j) (by omega)
    refine ⟨g, o + k, by rw [e1]; unfold Addr.add; by_cases h0 : k = 0 <;> simp [h0], e2, e3, ?_⟩
    rw [List.getElem_drop, Nat.add_assoc]
    exact e4
  · refine ⟨ao, 0, by rw [List.length_drop], by rw [List.length_drop]; omega, by unfold maxLen; omega, fun j hj => ?_⟩
    rw [List.length_drop] at hj
    omega
theorem zag_xor (u : Nat) (hu : u < 18446744073709551616) : bits .xor .i64 ((u : Int) / 2) (wrap64 (-wrap64 (bits .and .u64 (u : Int) 1))) = zag u := by
  have h1 : bits .and .u64 (u : Int) 1 = ((u % 2 : Nat) : Int) := by
    show IntKind.u64.wrap (((BitVec.ofInt 64 (u : Int) &&& BitVec.ofInt 64 1).toNat : Nat) : Int) = _
    rw [BitVec.ofInt_natCast, BitVec.toNat_and, BitVec.toNat_ofNat, show (BitVec.ofInt 64 1).toNat = 1 by decide, Nat.and_one_is_mod]
    show (((u % 2 ^ 64 % 2 : Nat) : Int)) % 18446744073709551616 = _
    omega
  rw [h1]
  have e : (u : Int) / 2 = ((u / 2 : Nat) : Int) := by omega
  rw [e]
  by_cases h : u % 2 = 0
  · rw [h, show wrap64 (-wrap64 ((0 : Nat) : Int)) = 0 by simp [wrap64]]
    show IntKind.i64.wrap (((BitVec.ofInt 64 ((u / 2 : Nat) : Int) ^^^ BitVec.ofInt 64 0).toNat : Nat) : Int) = _
    rw [show BitVec.ofInt 64 0 = 0#64 by decide, BitVec.xor_zero, BitVec.ofInt_natCast, BitVec.toNat_ofNat]
    unfold zag
    rw [if_pos h, Nat.mod_eq_of_lt (by omega)]
    have : IntKind.i64.wrap (((u / 2 : Nat) : Int)) = ((u / 2 : Nat) : Int) := by
      rw [IntKind.wrap_i64]
      omega
    exact this
  · rw [show u % 2 = 1 by omega, show wrap64 (-wrap64 ((1 : Nat) : Int)) = -1 by simp [wrap64]]
    show IntKind.i64.wrap (((BitVec.ofInt 64 ((u / 2 : Nat) : Int) ^^^ BitVec.ofInt 64 (-1)).toNat : Nat) : Int) = _
    rw [show BitVec.ofInt 64 (-1) = BitVec.allOnes 64 by decide, BitVec.xor_allOnes, BitVec.ofInt_natCast, BitVec.toNat_not, BitVec.toNat_ofNat]
    unfold zag
    rw [if_neg h, Nat.mod_eq_of_lt (by omega)]
    rw [IntKind.wrap_i64]
    omega
set_option maxRecDepth 100000 in
set_option maxHeartbeats 1600000 in
theorem wNum_read (p : Nat) (b : List UInt8) (lo hi : Int) (w : World) (h : InW M w p b 0) (hl : b.length ≤ 1000000) : Calls Tryd.prog 69 #[.pointer (some ⟨p, 0, none⟩), .int .i64 lo, .int .i64 hi] w (WNumEnd M w p b lo hi) := by
  have H := Lib.hid h
  have HN := Lib.hid (raw_any p b w h hl)
  obtain ⟨ao, cap, c0, c1, f0, hlc, h63, hcell⟩ := inw_cells h
  have HCELL := Lib.hid hcell
  unfold maxLen at h63
  clear h hcell
  cases hr : rdv 10 0 0 b with
  | error x =>
    have HR := Lib.hid hr
    clear hr
    go_enter Tryd.func69, Tryd.ntmps69
    go_wp2_with (first
      | (go_at_call 71; refine (err_any p b 0 _ H.out).mono ?_; rintro e w5 ⟨rfl, rfl⟩)
      | (go_at_call 84; refine HN.out.mono ?_; intro e w5 h5; obtain ⟨hx, rfl, rfl⟩ := h5.err HR.out; have HX := Lib.hid hx; have hq : (x == 0) = false := (by simpa using hx); clear h5)
      | (go_at_call 68; refine (fail_any p b x _ H.out).mono ?_; rintro e w5 ⟨rfl, hi, hc⟩; have HIN := Lib.hid hi; have HC := Lib.hid hc; clear hi hc))
    go_ret
    exact .inr ⟨x, rdNum_err HR.out, HX.out, rfl, HIN.out, HC.out⟩
  | ok v =>
    obtain ⟨u, r⟩ := v
    have HR := Lib.hid hr
    obtain ⟨hu64, k, hrk, hkb, hk0, hkl⟩ := rdv_bits hr
    have HKL := Lib.hid hkl
    have HRK := Lib.hid hrk
    obtain ⟨n, hn⟩ : ∃ n, n = zag u := ⟨_, rfl⟩
    have HZ2 : Hid (zag u = n) := hn.symm
    have hX : ∀ v : Int, v = (u : Int) → bits .xor .i64 (v / 2) (wrap64 (-wrap64 (bits .and .u64 v 1))) = n := fun v hv => by rw [hv, zag_xor u hu64, hn]
    have HL2 := fun v hvv => H.out.left k hkb c0 (v := v) hvv
    have HLF := Lib.hid HL2
    clear hr hkl hrk HL2 hn
    go_enter Tryd.func69, Tryd.ntmps69
    go_wp2_with (first
      | (go_at_call 71; refine (err_any p b 0 _ H.out).mono ?_; rintro e w5 ⟨rfl, rfl⟩)
      | (go_at_call 84; refine HN.out.mono ?_; intro e w5 h5; obtain ⟨rfl, rfl⟩ := h5.ok HR.out HKL.out; clear h5)
      | (go_at_call 68; refine (fail_any p b 4 _ H.out).mono ?_; rintro e w5 ⟨rfl, hi, hc⟩; have HIN := Lib.hid hi; have HC := Lib.hid hc; clear hi hc))
    all_goals
      go_ret
      have hz2 := HZ2.out
      first
        | exact .inr ⟨4, by rw [rdNum_of HR.out, hz2, if_pos (by omega)], by decide, rfl, HIN.out, HC.out⟩
        | (obtain ⟨hi, hc⟩ := HLF.out _ (.inr ⟨rfl, by omega⟩); exact .inl ⟨n, r, by rw [rdNum_of HR.out, hz2, if_neg (by omega)], rfl, by rw [HRK.out]; exact hi, hc⟩)
        | (obtain ⟨hi, hc⟩ := HLF.out _ (.inl rfl); exact .inl ⟨n, r, by rw [rdNum_of HR.out, hz2, if_neg (by omega)], rfl, by rw [HRK.out]; exact hi, hc⟩)
theorem wNum_past (p : Nat) (b : List UInt8) (x lo hi : Int) (w : World) (h : InW M w p b x) (hx : x ≠ 0) : Calls Tryd.prog 69 #[.pointer (some ⟨p, 0, none⟩), .int .i64 lo, .int .i64 hi] w fun e w' => e = .returned (.int .i64 0) ∧ w = w' := by
  have hq : (x == 0) = false := by simpa using hx
  have H := Lib.hid h
  clear h
  go_enter Tryd.func69, Tryd.ntmps69
  go_wp2_with (go_at_call 71; refine (err_any p b x _ H.out).mono ?_; rintro e w5 ⟨rfl, rfl⟩)
  go_ret
  exact ⟨rfl, rfl⟩
end Go.Proofs.YtofmbpmmgpbdbaaDoor
