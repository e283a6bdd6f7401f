/- The readers' contracts by functions: the reference's, the program's. -/
import Derived.Test.YtofmbpmmgpbdbaaDoorRdFun
import Derived.Test.YtofmbpmmgpbdbaaDoorRdRef2
import Derived.Test.YtofmbpmmgpbdbaaDoorRdProg3
namespace Go.Proofs.YtofmbpmmgpbdbaaDoor
open Go.RowKit Go.Maps Wr
set_option linter.unusedVariables false
variable {M : Nat}

def NumFn (I : World → Nat → List UInt8 → Int → Prop) (w : World) (p : Nat) (a : Int × List UInt8 × Int) (e : Ending) (w' : World) : Prop := e = .returned (.int .i64 a.1) ∧ I w' p a.2.1 a.2.2 ∧ Chg [p] w w'
def StrFn (I : World → Nat → List UInt8 → Int → Prop) (w : World) (p : Nat) (a : List UInt8 × List UInt8 × Int) (e : Ending) (w' : World) : Prop := e = .returned (.string (bytes a.1)) ∧ I w' p a.2.1 a.2.2 ∧ Chg [p] w w'

theorem refNum_fn (p : Nat) (b : List UInt8) (x lo hi : Int) (w : World) (h : InR w p b x) (hl : b.length ≤ 1000000) : Calls Tryd.prog 65 #[.pointer (some ⟨p, 0, none⟩), .int .i64 lo, .int .i64 hi] w (NumFn InR w p (rn lo hi b x)) := by
  by_cases hx : x = 0
  · subst hx
    refine (refNum_read p b lo hi w h hl).mono ?_
    rintro e w' (⟨n, r, h1, h2, h3, h4⟩ | ⟨y, h1, _, h2, h3, h4⟩)
    · rw [rn_ok h1]; exact ⟨h2, h3, h4⟩
    · rw [rn_err h1]; exact ⟨h2, h3, h4⟩
  · refine (refNum_past p b x lo hi w h hx).mono ?_
    rintro e w' ⟨rfl, rfl⟩
    rw [rn_past hx]
    exact ⟨rfl, h, Chg.refl _ _⟩
theorem wNum_fn (p : Nat) (b : List UInt8) (x lo hi : Int) (w : World) (h : InW M w p b x) (hl : b.length ≤ 1000000) : Calls Tryd.prog 69 #[.pointer (some ⟨p, 0, none⟩), .int .i64 lo, .int .i64 hi] w (NumFn (InW M) w p (rn lo hi b x)) := by
  by_cases hx : x = 0
  · subst hx
    refine (wNum_read p b lo hi w h hl).mono ?_
    rintro e w' (⟨n, r, h1, h2, h3, h4⟩ | ⟨y, h1, _, h2, h3, h4⟩)
    · rw [rn_ok h1]; exact ⟨h2, h3, h4⟩
    · rw [rn_err h1]; exact ⟨h2, h3, h4⟩
  · refine (wNum_past p b x lo hi w h hx).mono ?_
    rintro e w' ⟨rfl, rfl⟩
    rw [rn_past hx]
    exact ⟨rfl, h, Chg.refl _ _⟩
theorem rs_err {hi n y : Int} {b r : List UInt8} {x : Int} (h : rn 0 hi b x = (n, r, y)) (hy : y ≠ 0) : rs hi b x = ([], r, y) := by unfold rs; rw [h]; simp only; rw [if_neg hy]
theorem rs_tail {hi n : Int} {b r : List UInt8} {x : Int} (h : rn 0 hi b x = (n, r, 0)) (hk : (r.length : Int) < n) : rs hi b x = ([], r, 3) := by unfold rs; rw [h]; simp only [if_true]; rw [if_pos hk]
theorem rs_ok {hi : Int} {k : Nat} {b r : List UInt8} {x : Int} (h : rn 0 hi b x = (((k : Nat) : Int), r, 0)) (hk : k ≤ r.length) : rs hi b x = (r.take k, r.drop k, 0) := by unfold rs; rw [h]; simp only [if_true]; rw [if_neg (by omega), Int.toNat_natCast]
theorem chg_set1 {w w' : World} {p o : Nat} (h : Chg [p] w w') (u : Value) : Chg [p] w (w'.setCell ⟨p, o, none⟩ u) := Chg.setCell (p := ⟨p, o, none⟩) h (.inl (by simp)) _

set_option maxRecDepth 100000 in
set_option maxHeartbeats 1600000 in
theorem refStr_fn (p : Nat) (b : List UInt8) (x hi : Int) (w : World) (h : InR w p b x) (hl : b.length ≤ 1000000) (hh : 0 ≤ hi) : Calls Tryd.prog 66 #[.pointer (some ⟨p, 0, none⟩), .int .i64 hi] w (StrFn InR w p (rs hi b x)) := by
  have HN' := refNum_fn p b x 0 hi w h hl
  obtain ⟨n, r, y, hr⟩ : ∃ n r y, rn 0 hi b x = (n, r, y) := ⟨_, _, _, rfl⟩
  have hn := rn_count (lo := 0) (hi := hi) b x (by omega) hh
  have hrl := rn_le 0 hi b x
  rw [hr] at HN' hn hrl
  have HN := Lib.hid HN'
  have HR := Lib.hid hr
  obtain ⟨hn0, hn1⟩ := hn
  simp only at hn0 hn1 hrl
  clear HN' hr h hn1
  by_cases hy : y = 0
  · subst hy
    obtain ⟨k, rfl⟩ : ∃ k : Nat, n = (k : Int) := ⟨n.toNat, by omega⟩
    have hsz : (bytes r).size = r.length := bytes_size r
    by_cases hk : r.length < k
    · have gk1 : ((bytes r).size : Int) < (k : Int) := by omega
      have he : Hid (rs hi b x = ([], r, 3)) := rs_tail HR.out (by omega)
      go_enter Tryd.func66, Tryd.ntmps66
      go_wp2_with ((go_at_call 65; refine HN.out.mono ?_; rintro e w5 ⟨rfl, hin, hc⟩; have HIN := Lib.hid hin; have HC := Lib.hid hc; obtain ⟨c0, c1, f0⟩ := in_cells hin; clear hin hc))
      all_goals
        go_ret
        show StrFn _ _ _ _ _ _
        rw [he.out]
        exact ⟨rfl, HIN.out.err 3, chg_set1 HC.out _⟩
    · have gk1 : ¬ ((bytes r).size : Int) < (k : Int) := by omega
      have gk2 : (k : Int) ≤ ((bytes r).size : Int) := by omega
      have gk3 : (0 : Int) ≤ (k : Int) := by omega
      have he : Hid (rs hi b x = (r.take k, r.drop k, 0)) := rs_ok HR.out (by omega)
      go_enter Tryd.func66, Tryd.ntmps66
      go_wp2_with ((go_at_call 65; refine HN.out.mono ?_; rintro e w5 ⟨rfl, hin, hc⟩; have HIN := Lib.hid hin; have HC := Lib.hid hc; obtain ⟨c0, c1, f0⟩ := in_cells hin; clear hin hc))
      all_goals
        go_ret
        show StrFn _ _ _ _ _ _
        rw [he.out]
        refine ⟨ret_str (bytes_take r k (by omega)), ?_, chg_set1 HC.out _⟩
        rw [bytes_drop]
        exact HIN.out.left
  · have hq : (y == 0) = false := by simpa using hy
    have he : Hid (rs hi b x = ([], r, y)) := rs_err HR.out hy
    clear hn0
    go_enter Tryd.func66, Tryd.ntmps66
    go_wp2_with ((go_at_call 65; refine HN.out.mono ?_; rintro e w5 ⟨rfl, hin, hc⟩; have HIN := Lib.hid hin; have HC := Lib.hid hc; obtain ⟨c0, c1, f0⟩ := in_cells hin; clear hin hc))
    all_goals
      go_ret
      show StrFn _ _ _ _ _ _
      rw [he.out]
      exact ⟨rfl, HIN.out, HC.out⟩

theorem run_take {w : World} {p : Nat} {b : List UInt8} {e : Int} {ao : Option Addr} {cap : Nat} (h : InW M w p b e) (hv : w.cell? ⟨p, 0, none⟩ = some (.slice ao b.length cap)) (k c : Nat) (hk : k ≤ b.length) : (convert 29 9 (.slice ao k c)).run Tryd.prog w = .ok (.string (bytes (b.take k))) w := by
  obtain ⟨v0, hz, ao', cap', rfl, h2, h3, h4⟩ := h
  have e0 : w.cell? ⟨p, 0, none⟩ = some (.slice ao' b.length cap') := by simp [World.cell?, hz]
  rw [hv] at e0
  simp only [Option.some.injEq, Value.slice.injEq, true_and] at e0
  obtain ⟨rfl, rfl⟩ := e0
  have hl : (b.take k).length = k := by rw [List.length_take]; omega
  cases ao with
  | none =>
    have hb : b.take k = [] := by
      cases hb : b with
      | nil => simp
      | cons y l =>
        obtain ⟨g, o, e1, _⟩ := h4 0 (by rw [hb]; simp)
        cases e1
    rw [hb]
    exact run_convert_bytes_nil w 29 5 Tryd.underlying29 Tryd.underlying5 k c 9 Tryd.underlying9
  | some ad =>
    have := run_convert_bytes_back (P := Tryd.prog) w 29 9 5 ad c (b.take k) Tryd.underlying29 Tryd.underlying5 Tryd.underlying9 (fun j hj => by
      obtain ⟨g, o, e1, _, _, e4⟩ := h4 j (by rw [List.length_take] at hj; omega)
      cases e1
      rw [show (Addr.add ⟨g, o, none⟩ j) = ⟨g, o + j, none⟩ by unfold Addr.add; split <;> simp_all]
      rw [e4, List.getElem_take])
    rwa [hl] at this
set_option maxRecDepth 100000 in
set_option maxHeartbeats 1600000 in
theorem wStr_fn (p : Nat) (b : List UInt8) (x hi : Int) (w : World) (h : InW M w p b x) (hl : b.length ≤ 1000000) (hh : 0 ≤ hi) : Calls Tryd.prog 70 #[.pointer (some ⟨p, 0, none⟩), .int .i64 hi] w (StrFn (InW M) w p (rs hi b x)) := by
  have HN' := wNum_fn p b x 0 hi w h hl
  obtain ⟨n, r, y, hr⟩ : ∃ n r y, rn 0 hi b x = (n, r, y) := ⟨_, _, _, rfl⟩
  have hn := rn_count (lo := 0) (hi := hi) b x (by omega) hh
  have hrl := rn_le 0 hi b x
  rw [hr] at HN' hn hrl
  have HN := Lib.hid HN'
  have HR := Lib.hid hr
  obtain ⟨hn0, hn1⟩ := hn
  simp only at hn0 hn1 hrl
  clear HN' hr h hn1
  by_cases hy : y = 0
  · subst hy
    obtain ⟨k, rfl⟩ : ∃ k : Nat, n = (k : Int) := ⟨n.toNat, by omega⟩
    by_cases hk : r.length < k
    · have gk1 : (r.length : Int) < (k : Int) := by omega
      have he : Hid (rs hi b x = ([], r, 3)) := rs_tail HR.out (by omega)
      go_enter Tryd.func70, Tryd.ntmps70
      go_wp2_with (first
        | ((go_at_call 69; refine HN.out.mono ?_; rintro e w5 ⟨rfl, hin, hc⟩; replace hin : InW M w5 p r 0 := hin; have HIN := Lib.hid hin; have HC := Lib.hid hc; obtain ⟨ao, cap, c0, c1, f0, hlc, h63, _⟩ := inw_cells hin; unfold maxLen at h63; clear hin hc))
        | (go_at_call 71; refine (err_any p r 0 _ HIN.out).mono ?_; rintro e w6 ⟨rfl, rfl⟩)
        | (go_at_call 68; refine (fail_any p r 3 _ HIN.out).mono ?_; rintro e w6 ⟨rfl, hi6, hc6⟩; have HI6 := Lib.hid hi6; have HC6 := Lib.hid hc6; clear hi6 hc6))
      all_goals
        go_ret
        show StrFn _ _ _ _ _ _
        rw [he.out]
        exact ⟨rfl, HI6.out, HC.out.trans HC6.out (fun k hk => .inl hk)⟩
    · have gk1 : ¬ (r.length : Int) < (k : Int) := by omega
      have gk2 : (k : Int) ≤ (r.length : Int) := by omega
      have gk3 : (0 : Int) ≤ (k : Int) := by omega
      have he : Hid (rs hi b x = (r.take k, r.drop k, 0)) := rs_ok HR.out (by omega)
      go_enter Tryd.func70, Tryd.ntmps70
      go_wp2_with (first
        | ((go_at_call 69; refine HN.out.mono ?_; rintro e w5 ⟨rfl, hin, hc⟩; replace hin : InW M w5 p r 0 := hin; have HIN := Lib.hid hin; have HC := Lib.hid hc; obtain ⟨ao, cap, c0, c1, f0, hlc, h63, _⟩ := inw_cells hin; unfold maxLen at h63; have hcv := fun c => run_take hin c0 k c (by omega); clear hin hc))
        | (go_at_call 71; refine (err_any p r 0 _ HIN.out).mono ?_; rintro e w6 ⟨rfl, rfl⟩))
      all_goals
        go_ret
        show StrFn _ _ _ _ _ _
        rw [he.out]
        have hle : k ≤ r.length := by omega
        first
          | (obtain ⟨h1, h2⟩ := HIN.out.left k hle c0 (.inr ⟨rfl, by omega⟩); exact ⟨rfl, h1, HC.out.trans h2 (fun k hk => .inl hk)⟩)
          | (obtain ⟨h1, h2⟩ := HIN.out.left k hle c0 (.inl rfl); exact ⟨rfl, h1, HC.out.trans h2 (fun k hk => .inl hk)⟩)
  · have hq : (y == 0) = false := by simpa using hy
    have he : Hid (rs hi b x = ([], r, y)) := rs_err HR.out hy
    clear hn0
    go_enter Tryd.func70, Tryd.ntmps70
    go_wp2_with (first
      | ((go_at_call 69; refine HN.out.mono ?_; rintro e w5 ⟨rfl, hin, hc⟩; replace hin : InW M w5 p r y := hin; have HIN := Lib.hid hin; have HC := Lib.hid hc; obtain ⟨ao, cap, c0, c1, f0, hlc, h63, _⟩ := inw_cells hin; unfold maxLen at h63; clear hin hc))
      | (go_at_call 71; refine (err_any p r y _ HIN.out).mono ?_; rintro e w6 ⟨rfl, rfl⟩))
    all_goals
      go_ret
      show StrFn _ _ _ _ _ _
      rw [he.out]
      exact ⟨rfl, HIN.out, HC.out⟩
end Go.Proofs.YtofmbpmmgpbdbaaDoor
