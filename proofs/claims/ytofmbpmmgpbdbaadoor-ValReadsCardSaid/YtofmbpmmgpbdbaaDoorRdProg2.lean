/- The program's reader: a number's bits. -/
import Derived.Test.YtofmbpmmgpbdbaaDoorRdProg
namespace Go.Proofs.YtofmbpmmgpbdbaaDoor
open Go.RowKit Go.Maps Wr
set_option linter.unusedVariables false
variable {M : Nat}

theorem and_127 (c : UInt8) : bits .and .u8 (c.toNat : Int) 127 = (c.toNat : Int) % 128 := by
  show IntKind.u8.wrap (((BitVec.ofInt 8 (c.toNat : Int) &&& BitVec.ofInt 8 127).toNat : Nat) : Int) = _
  rw [BitVec.ofInt_natCast, BitVec.toNat_and, BitVec.toNat_ofNat, show (BitVec.ofInt 8 127).toNat = 127 by decide, IntKind.wrap_u8]
  have key : ∀ x : Nat, x < 256 → (x &&& 127) = x % 128 := by decide +kernel
  have := c.toNat_lt
  rw [key _ (by omega)]
  omega
theorem u64_or_seven (x y k : Nat) (hx : x < 2 ^ (7 * k)) (hk : k ≤ 9) (h : x + y * 2 ^ (7 * k) < 18446744073709551616) : bits .or .u64 (x : Int) ((y * 2 ^ (7 * k) : Nat) : Int) = ((x + y * 2 ^ (7 * k) : Nat) : Int) := by
  rw [u64_or_nat _ _ (by omega) (by omega), Nat.or_comm, nat_join (7 * k) _ x (Nat.mul_mod_left _ _) hx, Nat.add_comm]
def RawEnd (w : World) (b : List UInt8) (e : Ending) (w' : World) : Prop :=
  (∃ u r, rdv 10 0 0 b = .ok (u, r) ∧ e = .returned (.tuple #[.int .u64 (u : Nat), .int .i64 ((b.length - r.length : Nat) : Int), .int .i64 0]) ∧ w = w') ∨ (∃ x, rdv 10 0 0 b = .error x ∧ x ≠ 0 ∧ e = .returned (.tuple #[.int .u64 0, .int .i64 0, .int .i64 x]) ∧ w = w')
def RawLoop (b : List UInt8) (w : World) (k : Nat) (s5 s8 : Value) (wr : World) : Prop :=
  wr = w ∧ ∃ (i u : Nat), s5 = .int .u64 (u : Nat) ∧ s8 = .int .i64 (i : Nat) ∧ i + k = 10 ∧ i < 10 ∧ i ≤ b.length ∧ u < 2 ^ (7 * i) ∧ rdv 10 0 0 b = rdv k i u (b.drop i)

set_option maxRecDepth 100000 in
set_option maxHeartbeats 1600000 in
theorem raw_any (p : Nat) (b : List UInt8) (w : World) (h : InW M w p b 0) (hl : b.length ≤ 1000000) : Calls Tryd.prog 84 #[.pointer (some ⟨p, 0, none⟩)] w (RawEnd w b) := by
  obtain ⟨ao, cap, c0, c1, f0, hlc, h63, hcell⟩ := inw_cells h
  have HCELL := Lib.hid hcell
  unfold maxLen at h63
  clear h hcell
  go_enter Tryd.func84, Tryd.ntmps84
  go_wp2
  have HL : Hid (RawLoop b w 10 (.int .u64 0) (.int .i64 0) w) := ⟨rfl, 0, 0, rfl, rfl, rfl, by omega, by omega, by simp, rfl⟩
  go_loopg [5, 6, 7, 8] 10 (fun k s5 _ _ s8 wr => RawLoop b w k s5 s8 wr)
  case atStart => exact HL.out
  case round =>
    clear HL
    obtain ⟨rfl, i, u, rfl, rfl, hik, h10, hib, hu, hr⟩ := hrel
    have HR := Lib.hid hr
    have HU := Lib.hid hu
    clear hr hu
    have g2 : (i : Int) < 10 := by omega
    have g3 : (0 : Int) ≤ (i : Int) := by omega
    by_cases hlt : i < b.length
    · obtain ⟨g, o, rfl, hgp, hgs, hc⟩ := HCELL.out i hlt
      have g1 : (i : Int) < (b.length : Int) := by omega
      have g1' : ((i : Int) == (b.length : Int)) = false := by simp; omega
      obtain ⟨f, rfl⟩ : ∃ f, gk = f + 1 := ⟨gk - 1, by omega⟩
      obtain ⟨x, hx⟩ : ∃ x, x = b[i] := ⟨_, rfl⟩
      rw [← hx] at hc
      have HST : Hid (rdv 10 0 0 b = _) := HR.out.trans (by rw [List.drop_eq_getElem_cons hlt, rdv_cons, ← hx])
      clear hx
      have hc2 : (x.toNat : Int) < 256 := by have := x.toNat_lt; omega
      have hand := and_127 x
      by_cases h9 : i = 9
      · subst h9
        by_cases h1x : 1 < x.toNat
        · have g1x : (1 : Int) < (x.toNat : Int) := by omega
          have he : Hid (rdv 10 0 0 b = .error 2) := by
            have := HST.out
            rw [if_pos (by omega)] at this
            exact this
          go_wp2
          refine bodyPost_ret (v := .tuple #[.int .u64 0, .int .i64 0, .int .i64 2]) (by simp [results, Tryd.results84, go_sem]) rfl ?_
          exact .inr ⟨2, he.out, by decide, rfl, rfl⟩
        · have g1x : ¬ (1 : Int) < (x.toNat : Int) := by omega
          have g128 : (x.toNat : Int) < 128 := by omega
          by_cases hz : x.toNat = 0
          · have gz : ((x.toNat : Int) == 0) = true := by rw [hz]; rfl
            have he : Hid (rdv 10 0 0 b = .error 2) := by
              have := HST.out
              rw [if_neg (by omega), if_neg (by omega), if_pos (by omega)] at this
              exact this
            go_wp2
            refine bodyPost_ret (v := .tuple #[.int .u64 0, .int .i64 0, .int .i64 2]) (by simp [results, Tryd.results84, go_sem]) rfl ?_
            exact .inr ⟨2, he.out, by decide, rfl, rfl⟩
          · have hx1 : x.toNat = 1 := by omega
            have gz : ((x.toNat : Int) == 0) = false := by rw [hx1]; rfl
            have hu9 : u < 9223372036854775808 := by have := HU.out; simpa using this
            obtain ⟨u', hu'⟩ : ∃ u', u' = u + 9223372036854775808 := ⟨_, rfl⟩
            have he : Hid (rdv 10 0 0 b = .ok (u', b.drop (9 + 1))) := by
              have := HST.out
              rw [if_neg (by omega), if_neg (by omega), if_neg (by omega), hx1] at this
              rw [hu']
              show rdv 10 0 0 b = _
              simpa using this
            have hW : ∀ v : Int, v = (u : Int) → bits .or .u64 v (IntKind.u64.wrap ((x.toNat : Int) % 128 * 9223372036854775808)) = (u' : Int) := fun v hv => by
              rw [hv, hx1]
              have := u64_or_seven u 1 9 (by omega) (by omega) (by omega)
              rw [hu']
              exact this
            have hW9 : ∀ v : Int, v = (u : Int) → bits .or .u64 v ((x.toNat : Int) % 128 * 9223372036854775808) = (u' : Int) := fun v hv => by
              rw [← hW v hv, hx1]
              rfl
            clear hu' hu9 hx1 hz h1x
            go_wp2
            refine bodyPost_ret (v := .tuple #[.int .u64 (u' : Nat), .int .i64 ((9 + 1 : Nat) : Int), .int .i64 0]) (by simp [results, Tryd.results84, go_sem]) rfl ?_
            exact .inl ⟨u', b.drop (9 + 1), he.out, by rw [List.length_drop, show b.length - (b.length - (9 + 1)) = 9 + 1 by omega], rfl⟩
      · have g9 : ¬ (i : Int) = 9 := by omega
        have hu63 : u + x.toNat % 128 * 2 ^ (7 * i) < 2 ^ (7 * (i + 1)) := by
          have h1 := HU.out
          have h2 : x.toNat % 128 < 128 := Nat.mod_lt _ (by omega)
          have h3 : (x.toNat % 128 + 1) * 2 ^ (7 * i) ≤ 128 * 2 ^ (7 * i) := Nat.mul_le_mul_right _ (by omega)
          rw [Nat.add_mul] at h3
          rw [show 7 * (i + 1) = 7 * i + 7 by omega, Nat.pow_add]
          omega
        have hp63 : (2 : Nat) ^ (7 * (i + 1)) ≤ 2 ^ 63 := Nat.pow_le_pow_right (by omega) (by omega)
        obtain ⟨u', hu'⟩ : ∃ u', u' = u + x.toNat % 128 * 2 ^ (7 * i) := ⟨_, rfl⟩
        have hW : ∀ v : Int, v = (u : Int) → bits .or .u64 v (IntKind.u64.wrap ((x.toNat : Int) % 128 * 2 ^ (7 * i))) = (u' : Int) := fun v hv => by
          rw [hv]
          have e : ((x.toNat : Int) % 128 * 2 ^ (7 * i)) = ((x.toNat % 128 * 2 ^ (7 * i) : Nat) : Int) := by push_cast; rfl
          have e2 : IntKind.u64.wrap ((x.toNat : Int) % 128 * 2 ^ (7 * i)) = ((x.toNat % 128 * 2 ^ (7 * i) : Nat) : Int) := by
            rw [e]
            show ((x.toNat % 128 * 2 ^ (7 * i) : Nat) : Int) % 18446744073709551616 = _
            omega
          rw [e2, u64_or_seven u _ i HU.out (by omega) (by omega), hu']
        have HU3 : Hid (u' < 2 ^ (7 * (i + 1))) := by rw [hu']; exact hu63
        clear hu63 hp63
        by_cases h128 : 128 ≤ x.toNat
        · have g128 : ¬ (x.toNat : Int) < 128 := by omega
          have he : Hid (rdv 10 0 0 b = rdv f (i + 1) u' (b.drop (i + 1))) := by
            have := HST.out
            rw [if_neg (by omega), if_pos h128, ← hu'] at this
            exact this
          clear hu'
          go_wp2
          go_roundg f
          case measure => omega
          case rel => exact ⟨rfl, i + 1, u', rfl, by go_num, by omega, by omega, by omega, HU3.out, he.out⟩
        · have g128 : (x.toNat : Int) < 128 := by omega
          by_cases hz : 0 < i ∧ x.toNat = 0
          · have gz : ((x.toNat : Int) == 0) = true := by rw [hz.2]; rfl
            have gi : (0 : Int) < (i : Int) := by omega
            have he : Hid (rdv 10 0 0 b = .error 2) := by
              have := HST.out
              rw [if_neg (by omega), if_neg h128, if_pos hz] at this
              exact this
            clear hu'
            go_wp2
            refine bodyPost_ret (v := .tuple #[.int .u64 0, .int .i64 0, .int .i64 2]) (by simp [results, Tryd.results84, go_sem]) rfl ?_
            exact .inr ⟨2, he.out, by decide, rfl, rfl⟩
          · have hxm : x.toNat % 128 = x.toNat := Nat.mod_eq_of_lt (by omega)
            have he : Hid (rdv 10 0 0 b = .ok (u', b.drop (i + 1))) := by
              have := HST.out
              rw [if_neg (by omega), if_neg h128, if_neg hz] at this
              rw [hu', hxm]
              exact this
            clear hu' hxm
            by_cases hi0 : 0 < i
            · have gi : (0 : Int) < (i : Int) := by omega
              have gz : ((x.toNat : Int) == 0) = false := by simp; omega
              clear hz
              go_wp2
              refine bodyPost_ret (v := .tuple #[.int .u64 (u' : Nat), .int .i64 ((i + 1 : Nat) : Int), .int .i64 0]) (by simp [results, Tryd.results84, go_sem]) rfl ?_
              exact .inl ⟨u', b.drop (i + 1), he.out, by rw [List.length_drop, show b.length - (b.length - (i + 1)) = i + 1 by omega], rfl⟩
            · have gi : ¬ (0 : Int) < (i : Int) := by omega
              clear hz
              go_wp2
              all_goals
                refine bodyPost_ret (v := .tuple #[.int .u64 (u' : Nat), .int .i64 ((i + 1 : Nat) : Int), .int .i64 0]) (by simp [results, Tryd.results84, go_sem]) rfl ?_
                exact .inl ⟨u', b.drop (i + 1), he.out, by rw [List.length_drop, show b.length - (b.length - (i + 1)) = i + 1 by omega], rfl⟩
    · have e : i = b.length := by omega
      have g1' : ((i : Int) == (b.length : Int)) = true := by simp; omega
      obtain ⟨f, rfl⟩ : ∃ f, gk = f + 1 := ⟨gk - 1, by omega⟩
      have he : Hid (rdv 10 0 0 b = .error 3) := by
        have := HR.out
        rw [List.drop_eq_nil_of_le (by omega)] at this
        exact this
      go_wp2
      refine bodyPost_ret (v := .tuple #[.int .u64 0, .int .i64 0, .int .i64 3]) (by simp [results, Tryd.results84, go_sem]) rfl ?_
      exact .inr ⟨3, he.out, by decide, rfl, rfl⟩
end Go.Proofs.YtofmbpmmgpbdbaaDoor
