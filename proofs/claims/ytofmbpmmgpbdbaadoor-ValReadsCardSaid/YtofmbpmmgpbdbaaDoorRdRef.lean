/- The reference's reader: numbers and texts. -/
import Derived.Test.YtofmbpmmgpbdbaaDoorByteLaw
import Derived.Test.YtofmbpmmgpbdbaaDoorRdVal
namespace Go.Proofs.YtofmbpmmgpbdbaaDoor
open Go.RowKit Go.Maps Wr
set_option linter.unusedVariables false

/-- The reader: what is left, the first error. -/
def InR (w : World) (p : Nat) (b : List UInt8) (e : Int) : Prop := w.heap[p]? = some (.cells #[.string (bytes b), .int .i64 e] 73 (0, 0))
def RNumEnd (w : World) (p : Nat) (b : List UInt8) (lo hi : Int) (e : Ending) (w' : World) : Prop :=
  (∃ n r, rdNum lo hi b = .ok (n, r) ∧ e = .returned (.int .i64 n) ∧ InR w' p r 0 ∧ Chg [p] w w') ∨ (∃ x, rdNum lo hi b = .error x ∧ x ≠ 0 ∧ e = .returned (.int .i64 0) ∧ InR w' p b x ∧ Chg [p] w w')
def RNLoop (b : List UInt8) (w : World) (k : Nat) (s7 s8 : Value) (wr : World) : Prop :=
  wr = w ∧ ∃ (i u : Nat), s7 = .int .u64 (u : Nat) ∧ s8 = .int .i64 (i : Nat) ∧ i + k = 10 ∧ i < 10 ∧ i ≤ b.length ∧ u < 2 ^ (7 * i) ∧ rdv 10 0 0 b = rdv k i u (b.drop i)

theorem rdNum_of {lo hi : Int} {b r : List UInt8} {u : Nat} (h : rdv 10 0 0 b = .ok (u, r)) : rdNum lo hi b = if zag u < lo ∨ hi < zag u then .error 4 else .ok (zag u, r) := by unfold rdNum; rw [h]
theorem rdNum_err {lo hi : Int} {b : List UInt8} {e : Int} (h : rdv 10 0 0 b = .error e) : rdNum lo hi b = .error e := by unfold rdNum; rw [h]
theorem rdv_cons (f k u : Nat) (x : UInt8) (b : List UInt8) : rdv (f + 1) k u (x :: b) = if k = 9 ∧ 1 < x.toNat then .error 2 else if 128 ≤ x.toNat then rdv f (k + 1) (u + x.toNat % 128 * 2 ^ (7 * k)) b else if 0 < k ∧ x.toNat = 0 then .error 2 else .ok (u + x.toNat * 2 ^ (7 * k), b) := by rw [rdv]
theorem hdr2_set {w : World} {p : Nat} {a b u : Value} {t : TypeId} {o : Nat} (h : w.heap[p]? = some (.cells #[a, b] t (0, 0))) : (w.setCell ⟨p, o, none⟩ u).heap[p]? = some (.cells (#[a, b].setIfInBounds o u) t (0, 0)) := by
  have hlt := lt_of_block h
  have h' : w.heap[p] = .cells #[a, b] t (0, 0) := by simpa [Array.getElem?_eq_getElem hlt] using h
  show (w.heap.modify p _)[p]? = _
  rw [Array.getElem?_eq_getElem (by simpa using hlt), Array.getElem_modify_self, h']
  rfl
theorem InR.err {w : World} {p : Nat} {b : List UInt8} {e : Int} (h : InR w p b e) (x : Int) : InR (w.setCell ⟨p, 1, none⟩ (.int .i64 x)) p b x := (hdr2_set h).trans rfl
theorem InR.left {w : World} {p : Nat} {b r : List UInt8} {e : Int} (h : InR w p b e) : InR (w.setCell ⟨p, 0, none⟩ (.string (bytes r))) p r e := (hdr2_set h).trans rfl
theorem bytes_drop (b : List UInt8) (i : Nat) : (bytes b).extract i b.length = bytes (b.drop i) := by
  apply Go.WideShapes.bytes_inj
  simp [bytes]
  exact List.take_of_length_le (by simp)
theorem bytes_at {b : List UInt8} {i : Nat} (h : i < (bytes b).size) : b.drop i = (bytes b)[i] :: b.drop (i + 1) := by
  have hl : i < b.length := by rw [bytes_size] at h; exact h
  rw [List.drop_eq_getElem_cons hl]
  congr 1
set_option maxRecDepth 100000 in
set_option maxHeartbeats 1600000 in
theorem refNum_read (p : Nat) (b : List UInt8) (lo hi : Int) (w : World) (h : InR w p b 0) (hl : b.length ≤ 1000000) : Calls Tryd.prog 65 #[.pointer (some ⟨p, 0, none⟩), .int .i64 lo, .int .i64 hi] w (RNumEnd w p b lo hi) := by
  have H := Lib.hid h
  have c0 : w.cell? ⟨p, 0, none⟩ = some (.string (bytes b)) := by unfold InR at h; simp [World.cell?, h]
  have c1 : w.cell? ⟨p, 1, none⟩ = some (.int .i64 0) := by unfold InR at h; simp [World.cell?, h]
  have f0 : ∀ j, w.frozen? ⟨p, j, none⟩ = false := fun j => by unfold InR at h; simp [World.frozen?, h]
  have hsz : (bytes b).size = b.length := bytes_size b
  clear h
  go_enter Tryd.func65, Tryd.ntmps65
  go_wp2
  have HL : Hid (RNLoop b w 10 (.int .u64 0) (.int .i64 0) w) := ⟨rfl, 0, 0, rfl, rfl, rfl, by omega, by omega, by simp, rfl⟩
  go_loopg [7, 8, 9] 10 (fun k s7 s8 _ wr => RNLoop b w k s7 s8 wr)
  case atStart => exact HL.out
  case round =>
    clear HL
    obtain ⟨rfl, i, u, rfl, rfl, hik, h10, hib, hu, hr⟩ := hrel
    have HR := Lib.hid hr
    have HU := Lib.hid hu
    clear hr hu
    by_cases hlt : i < b.length
    · have g1 : (i : Int) < ((bytes b).size : Int) := by omega
      have g2 : (i : Int) < 10 := by omega
      have g3 : (0 : Int) ≤ (i : Int) := by omega
      have g4 : i < (bytes b).size := by omega
      have hc2 : ((bytes b)[i].toNat : Int) < 256 := by have := UInt8.toNat_lt (bytes b)[i]; omega
      obtain ⟨f, rfl⟩ : ∃ f, gk = f + 1 := ⟨gk - 1, by omega⟩
      have HDR := Lib.hid (bytes_at g4)
      have HST : Hid (rdv 10 0 0 b = _) := HR.out.trans (by rw [HDR.out, rdv_cons])
      obtain ⟨x, hx⟩ : ∃ x, x = (bytes b)[i] := ⟨_, rfl⟩
      rw [← hx] at HST
      have HXX := Lib.hid hx
      have C0 := fun v => Chg.setCell (p := ⟨p, 1, none⟩) (Chg.refl [p] wr) (.inl (by simp)) v
      by_cases h9 : i = 9
      · subst h9
        by_cases h1x : 1 < x.toNat
        · have g1x : (1 : Int) < ((bytes b)[9].toNat : Int) := by rw [← hx]; omega
          have he : Hid (rdv 10 0 0 b = .error 2) := by
            have := HST.out
            rw [if_pos (by omega)] at this
            exact this
          go_wp2
          all_goals
            go_ret
            exact .inr ⟨2, rdNum_err he.out, by decide, rfl, H.out.err 2, C0 _⟩
        · have g1x : ¬ (1 : Int) < ((bytes b)[9].toNat : Int) := by rw [← hx]; omega
          have g128 : ((bytes b)[9].toNat : Int) < 128 := by rw [← hx]; omega
          by_cases hz : x.toNat = 0
          · have gz : (((bytes b)[9].toNat : Int) == 0) = true := by rw [← hx, hz]; rfl
            have he : Hid (rdv 10 0 0 b = .error 2) := by
              have := HST.out
              rw [if_neg (by omega), if_neg (by omega), if_pos (by omega)] at this
              exact this
            go_wp2
            all_goals
              go_ret
              exact .inr ⟨2, rdNum_err he.out, by decide, rfl, H.out.err 2, C0 _⟩
          · have hx1 : x.toNat = 1 := by omega
            have gz : (((bytes b)[9].toNat : Int) == 0) = false := by rw [← hx, hx1]; rfl
            have hu9 : u < 9223372036854775808 := by have := HU.out; simpa using this
            obtain ⟨u', hu'⟩ : ∃ u', u' = u + 9223372036854775808 := ⟨_, rfl⟩
            have he : Hid (rdv 10 0 0 b = .ok (u', b.drop (9 + 1))) := by
              have := HST.out
              rw [if_neg (by omega), if_neg (by omega), if_neg (by omega), hx1] at this
              rw [hu']
              show rdv 10 0 0 b = _
              simpa using this
            have hW3 : ∀ v : Int, v = (u : Int) → IntKind.u64.wrap (v + ((bytes b)[9].toNat : Int) % 128 * 9223372036854775808) = (u' : Int) := fun v hv => by
              rw [hv, ← hx, hx1]
              show ((u : Int) + (1 : Int) % 128 * 9223372036854775808) % 18446744073709551616 = _
              omega
            have hU63 : u' < 18446744073709551616 := by omega
            have hd : wrap64 (IntKind.u64.wrap ((u' : Int).tdiv 2)) = ((u' / 2 : Nat) : Int) := by
              rw [Int.tdiv_eq_ediv_of_nonneg (by omega)]
              show wrap64 ((u' : Int) / 2 % 18446744073709551616) = _
              rw [wrap_id _ (by omega) (by omega)]
              omega
            obtain ⟨n, hn⟩ : ∃ n, n = zag u' := ⟨_, rfl⟩
            have HZ2 : Hid (zag u' = n) := hn.symm
            obtain ⟨q, hq⟩ : ∃ q : Nat, q = u' / 2 := ⟨_, rfl⟩
            clear hu9 hu'
            have hd3 : ∀ v : Int, v = (u' : Int) → wrap64 (IntKind.u64.wrap (v.tdiv 2)) = (q : Int) := fun v hv => by rw [hv, hd, hq]
            have hd4 : ∀ v : Int, v = (u' : Int) → wrap64 (IntKind.u64.wrap (v / 2)) = (q : Int) := fun v hv => by rw [hv, ← Int.tdiv_eq_ediv_of_nonneg (by omega), hd, hq]
            by_cases hodd : u' % 2 = 1
            · have htm : ((u' : Int).tmod 2 == 1) = true := by rw [Int.tmod_eq_emod_of_nonneg (by omega)]; simp; omega
              have htm2 : ((u' : Int) % 2 == 1) = true := by simp; omega
              have hneg : ∀ v : Int, v = (q : Int) → wrap64 (-1 - v) = n := fun v hv => by rw [hv, hq, wrap_id _ (by omega) (by omega), hn]; unfold zag; rw [if_neg (by omega)]; omega
              clear hn hU63 hd hq hodd
              clear HXX
              go_wp2
              all_goals
                go_ret
                have hz2 := HZ2.out
                first
                  | exact .inr ⟨4, by rw [rdNum_of he.out, hz2, if_pos (by omega)], by decide, rfl, H.out.err 4, C0 _⟩
                  | exact .inl ⟨n, b.drop (9 + 1), by rw [rdNum_of he.out, hz2, if_neg (by omega)], rfl, by rw [bytes_drop]; exact H.out.left, Chg.setCell (p := ⟨p, 0, none⟩) (Chg.refl [p] wr) (.inl (by simp)) _⟩
            · have htm : ((u' : Int).tmod 2 == 1) = false := by rw [Int.tmod_eq_emod_of_nonneg (by omega)]; simp; omega
              have htm2 : ((u' : Int) % 2 == 1) = false := by simp; omega
              have hqn : (q : Int) = n := by rw [hn, hq]; unfold zag; rw [if_pos (by omega)]
              have hd5 : ∀ v : Int, v = (u' : Int) → wrap64 (IntKind.u64.wrap (v.tdiv 2)) = n := fun v hv => by rw [hd3 v hv, hqn]
              have hd6 : ∀ v : Int, v = (u' : Int) → wrap64 (IntKind.u64.wrap (v / 2)) = n := fun v hv => by rw [hd4 v hv, hqn]
              clear hn hU63 hd hq hodd hd3 hd4 hqn
              clear HXX
              go_wp2
              all_goals
                go_ret
                have hz2 := HZ2.out
                first
                  | exact .inr ⟨4, by rw [rdNum_of he.out, hz2, if_pos (by omega)], by decide, rfl, H.out.err 4, C0 _⟩
                  | exact .inl ⟨n, b.drop (9 + 1), by rw [rdNum_of he.out, hz2, if_neg (by omega)], rfl, by rw [bytes_drop]; exact H.out.left, Chg.setCell (p := ⟨p, 0, none⟩) (Chg.refl [p] wr) (.inl (by simp)) _⟩
      · have hu63 : u + x.toNat % 128 * 2 ^ (7 * i) < 2 ^ (7 * (i + 1)) := by
          have h1 := HU.out
          have h2 : x.toNat % 128 < 128 := Nat.mod_lt _ (by omega)
          have h3 : (x.toNat % 128 + 1) * 2 ^ (7 * i) ≤ 128 * 2 ^ (7 * i) := Nat.mul_le_mul_right _ (by omega)
          rw [Nat.add_mul] at h3
          rw [show 7 * (i + 1) = 7 * i + 7 by omega, Nat.pow_add]
          omega
        have hp63 : (2 : Nat) ^ (7 * (i + 1)) ≤ 2 ^ 63 := Nat.pow_le_pow_right (by omega) (by omega)
        have hW : IntKind.u64.wrap ((u : Int) + IntKind.u64.wrap (((bytes b)[i].toNat : Int) % 128 * 2 ^ (7 * i))) = ((u + x.toNat % 128 * 2 ^ (7 * i) : Nat) : Int) := by
          rw [← hx]
          have e : ((x.toNat : Int) % 128 * 2 ^ (7 * i)) = ((x.toNat % 128 * 2 ^ (7 * i) : Nat) : Int) := by push_cast; rfl
          rw [e]
          show ((u : Int) + ((x.toNat % 128 * 2 ^ (7 * i) : Nat) : Int) % 18446744073709551616) % 18446744073709551616 = _
          omega
        have g9 : ¬ (i : Int) = 9 := by omega
        by_cases h128 : 128 ≤ x.toNat
        · have g128 : (128 : Int) ≤ ((bytes b)[i].toNat : Int) := by rw [← hx]; omega
          have HU3 := Lib.hid hu63
          clear hu63 hp63
          go_wp2
          go_roundg f
          case measure => omega
          case rel => exact ⟨rfl, i + 1, u + x.toNat % 128 * 2 ^ (7 * i), by rw [hx]; rfl, by go_num, by omega, by omega, by omega, HU3.out, by have := HST.out; rw [if_neg (by omega), if_pos h128] at this; exact this⟩
        · have g128 : ((bytes b)[i].toNat : Int) < 128 := by rw [← hx]; omega
          by_cases hz : 0 < i ∧ x.toNat = 0
          · have gz : (((bytes b)[i].toNat : Int) == 0) = true := by rw [← hx, hz.2]; rfl
            have gi : (0 : Int) < (i : Int) := by omega
            have he : Hid (rdv 10 0 0 b = .error 2) := by
              have := HST.out
              rw [if_neg (by omega), if_neg h128, if_pos hz] at this
              exact this
            clear hu63 hp63
            go_wp2
            all_goals
              go_ret
              exact .inr ⟨2, rdNum_err he.out, by decide, rfl, H.out.err 2, C0 _⟩
          · have hxm : x.toNat % 128 = x.toNat := Nat.mod_eq_of_lt (by omega)
            obtain ⟨u', hu'⟩ : ∃ u', u' = u + x.toNat % 128 * 2 ^ (7 * i) := ⟨_, rfl⟩
            rw [← hu'] at hW hu63
            have he : Hid (rdv 10 0 0 b = .ok (u', b.drop (i + 1))) := by
              have := HST.out
              rw [if_neg (by omega), if_neg h128, if_neg hz] at this
              rw [hu', hxm]
              exact this
            have hU63 : u' < 9223372036854775808 := by omega
            have hd : wrap64 (IntKind.u64.wrap ((u' : Int).tdiv 2)) = ((u' / 2 : Nat) : Int) := by
              rw [Int.tdiv_eq_ediv_of_nonneg (by omega)]
              show wrap64 ((u' : Int) / 2 % 18446744073709551616) = _
              rw [wrap_id _ (by omega) (by omega)]
              omega
            obtain ⟨n, hn⟩ : ∃ n, n = zag u' := ⟨_, rfl⟩
            have HZ2 : Hid (zag u' = n) := hn.symm
            obtain ⟨q, hq⟩ : ∃ q : Nat, q = u' / 2 := ⟨_, rfl⟩
            have hW3 : ∀ v : Int, v = (u : Int) → IntKind.u64.wrap (v + IntKind.u64.wrap (((bytes b)[i].toNat : Int) % 128 * 2 ^ (7 * i))) = (u' : Int) := fun v hv => by rw [hv]; exact hW
            clear hu63 hp63 hu' hxm
            have hd3 : ∀ v : Int, v = (u' : Int) → wrap64 (IntKind.u64.wrap (v.tdiv 2)) = (q : Int) := fun v hv => by rw [hv, hd, hq]
            have hd4 : ∀ v : Int, v = (u' : Int) → wrap64 (IntKind.u64.wrap (v / 2)) = (q : Int) := fun v hv => by rw [hv, ← Int.tdiv_eq_ediv_of_nonneg (by omega), hd, hq]
            by_cases hodd : u' % 2 = 1
            · have htm : ((u' : Int).tmod 2 == 1) = true := by rw [Int.tmod_eq_emod_of_nonneg (by omega)]; simp; omega
              have htm2 : ((u' : Int) % 2 == 1) = true := by simp; omega
              have hneg : ∀ v : Int, v = (q : Int) → wrap64 (-1 - v) = n := fun v hv => by rw [hv, hq, wrap_id _ (by omega) (by omega), hn]; unfold zag; rw [if_neg (by omega)]; omega
              clear hn hU63 hd hW hq hodd
              by_cases hi0 : 0 < i
              · have gi : (0 : Int) < (i : Int) := by omega
                have gz : (((bytes b)[i].toNat : Int) == 0) = false := by rw [← hx]; simp; omega
                clear hz HXX
                go_wp2
                all_goals
                  go_ret
                  have hz2 := HZ2.out
                  first
                    | exact .inr ⟨4, by rw [rdNum_of he.out, hz2, if_pos (by omega)], by decide, rfl, H.out.err 4, C0 _⟩
                    | exact .inl ⟨n, b.drop (i + 1), by rw [rdNum_of he.out, hz2, if_neg (by omega)], rfl, by rw [bytes_drop]; exact H.out.left, Chg.setCell (p := ⟨p, 0, none⟩) (Chg.refl [p] wr) (.inl (by simp)) _⟩
              · have gi : ¬ (0 : Int) < (i : Int) := by omega
                clear hz HXX
                go_wp2
                all_goals
                  go_ret
                  have hz2 := HZ2.out
                  first
                    | exact .inr ⟨4, by rw [rdNum_of he.out, hz2, if_pos (by omega)], by decide, rfl, H.out.err 4, C0 _⟩
                    | exact .inl ⟨n, b.drop (i + 1), by rw [rdNum_of he.out, hz2, if_neg (by omega)], rfl, by rw [bytes_drop]; exact H.out.left, Chg.setCell (p := ⟨p, 0, none⟩) (Chg.refl [p] wr) (.inl (by simp)) _⟩
            · have htm : ((u' : Int).tmod 2 == 1) = false := by rw [Int.tmod_eq_emod_of_nonneg (by omega)]; simp; omega
              have htm2 : ((u' : Int) % 2 == 1) = false := by simp; omega
              have hqn : (q : Int) = n := by rw [hn, hq]; unfold zag; rw [if_pos (by omega)]
              have hd5 : ∀ v : Int, v = (u' : Int) → wrap64 (IntKind.u64.wrap (v.tdiv 2)) = n := fun v hv => by rw [hd3 v hv, hqn]
              have hd6 : ∀ v : Int, v = (u' : Int) → wrap64 (IntKind.u64.wrap (v / 2)) = n := fun v hv => by rw [hd4 v hv, hqn]
              clear hn hU63 hd hW hq hodd hd3 hd4 hqn
              by_cases hi0 : 0 < i
              · have gi : (0 : Int) < (i : Int) := by omega
                have gz : (((bytes b)[i].toNat : Int) == 0) = false := by rw [← hx]; simp; omega
                clear hz HXX
                go_wp2
                all_goals
                  go_ret
                  have hz2 := HZ2.out
                  first
                    | exact .inr ⟨4, by rw [rdNum_of he.out, hz2, if_pos (by omega)], by decide, rfl, H.out.err 4, C0 _⟩
                    | exact .inl ⟨n, b.drop (i + 1), by rw [rdNum_of he.out, hz2, if_neg (by omega)], rfl, by rw [bytes_drop]; exact H.out.left, Chg.setCell (p := ⟨p, 0, none⟩) (Chg.refl [p] wr) (.inl (by simp)) _⟩
              · have gi : ¬ (0 : Int) < (i : Int) := by omega
                clear hz HXX
                go_wp2
                all_goals
                  go_ret
                  have hz2 := HZ2.out
                  first
                    | exact .inr ⟨4, by rw [rdNum_of he.out, hz2, if_pos (by omega)], by decide, rfl, H.out.err 4, C0 _⟩
                    | exact .inl ⟨n, b.drop (i + 1), by rw [rdNum_of he.out, hz2, if_neg (by omega)], rfl, by rw [bytes_drop]; exact H.out.left, Chg.setCell (p := ⟨p, 0, none⟩) (Chg.refl [p] wr) (.inl (by simp)) _⟩
    · have g0 : (b.length : Int) ≤ (i : Int) := by omega
      have g2 : (i : Int) < 10 := by omega
      obtain ⟨f, rfl⟩ : ∃ f, gk = f + 1 := ⟨gk - 1, by omega⟩
      have he : Hid (rdv 10 0 0 b = .error 3) := by
        have := HR.out
        rw [List.drop_eq_nil_of_le (by omega)] at this
        exact this
      go_wp2
      go_ret
      exact .inr ⟨3, rdNum_err he.out, by decide, rfl, H.out.err 3, Chg.setCell (p := ⟨p, 1, none⟩) (Chg.refl [p] wr) (.inl (by simp)) _⟩
end Go.Proofs.YtofmbpmmgpbdbaaDoor
