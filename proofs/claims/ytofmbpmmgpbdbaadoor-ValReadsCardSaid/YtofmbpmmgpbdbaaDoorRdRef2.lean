/- The reference's reader: texts, the end. -/
import Derived.Test.YtofmbpmmgpbdbaaDoorRdRef
namespace Go.Proofs.YtofmbpmmgpbdbaaDoor
open Go.RowKit Go.Maps Wr
set_option linter.unusedVariables false

theorem in_cells {w : World} {p : Nat} {b : List UInt8} {e : Int} (h : InR w p b e) : w.cell? ⟨p, 0, none⟩ = some (.string (bytes b)) ∧ w.cell? ⟨p, 1, none⟩ = some (.int .i64 e) ∧ ∀ j, w.frozen? ⟨p, j, none⟩ = false := by
  unfold InR at h
  refine ⟨by simp [World.cell?, h], by simp [World.cell?, h], fun j => by simp [World.frozen?, h]⟩
/-- Once there is an error, nothing more is read. -/
theorem refNum_past (p : Nat) (b : List UInt8) (x lo hi : Int) (w : World) (h : InR w p b x) (hx : x ≠ 0) : Calls Tryd.prog 65 #[.pointer (some ⟨p, 0, none⟩), .int .i64 lo, .int .i64 hi] w fun e w' => e = .returned (.int .i64 0) ∧ w = w' := by
  obtain ⟨c0, c1, f0⟩ := in_cells h
  have hq : (x == 0) = false := by simpa using hx
  clear h
  go_enter Tryd.func65, Tryd.ntmps65
  go_wp2
  go_ret
  exact ⟨rfl, rfl⟩
def RStrEnd (w : World) (p : Nat) (b : List UInt8) (hi : Int) (e : Ending) (w' : World) : Prop :=
  (∃ s r, rdStr hi b = .ok (s, r) ∧ e = .returned (.string (bytes s)) ∧ InR w' p r 0 ∧ Chg [p] w w') ∨ (∃ x r, rdStr hi b = .error x ∧ x ≠ 0 ∧ e = .returned (.string ⟨#[]⟩) ∧ InR w' p r x ∧ Chg [p] w w')
theorem RNumEnd.ok {w w' : World} {p : Nat} {b r : List UInt8} {lo hi n : Int} {e : Ending} (h : RNumEnd w p b lo hi e w') (hr : rdNum lo hi b = .ok (n, r)) : e = .returned (.int .i64 n) ∧ InR w' p r 0 ∧ Chg [p] w w' := by
  rcases h with ⟨n', r', h1, h2, h3, h4⟩ | ⟨x, h1, _⟩
  · rw [hr] at h1
    simp only [Except.ok.injEq, Prod.mk.injEq] at h1
    obtain ⟨rfl, rfl⟩ := h1
    exact ⟨h2, h3, h4⟩
  · rw [hr] at h1; cases h1
theorem RNumEnd.err {w w' : World} {p : Nat} {b : List UInt8} {lo hi x : Int} {e : Ending} (h : RNumEnd w p b lo hi e w') (hr : rdNum lo hi b = .error x) : x ≠ 0 ∧ e = .returned (.int .i64 0) ∧ InR w' p b x ∧ Chg [p] w w' := by
  rcases h with ⟨n', r', h1, _⟩ | ⟨x', h1, h2, h3, h4, h5⟩
  · rw [hr] at h1; cases h1
  · rw [hr] at h1
    simp only [Except.error.injEq] at h1
    subst h1
    exact ⟨h2, h3, h4, h5⟩
theorem bytes_take (b : List UInt8) (i : Nat) (h : i ≤ b.length) : (bytes b).extract 0 i = bytes (b.take i) := by
  apply Go.WideShapes.bytes_inj
  simp [bytes]

set_option maxRecDepth 100000 in
set_option maxHeartbeats 1600000 in
theorem refStr_read (p : Nat) (b : List UInt8) (hi : Int) (w : World) (h : InR w p b 0) (hl : b.length ≤ 1000000) : Calls Tryd.prog 66 #[.pointer (some ⟨p, 0, none⟩), .int .i64 hi] w (RStrEnd w p b hi) := by
  have HN := Lib.hid (refNum_read p b 0 hi w h hl)
  cases hr : rdNum 0 hi b with
  | error x =>
    have HR := Lib.hid hr
    clear hr h
    go_enter Tryd.func66, Tryd.ntmps66
    go_wp2_with ((go_at_call 65; refine HN.out.mono ?_; intro e w5 h5; obtain ⟨hx, rfl, hin, hc⟩ := h5.err HR.out; have HIN := Lib.hid hin; have HC := Lib.hid hc; have HX := Lib.hid hx; obtain ⟨c0, c1, f0⟩ := in_cells hin; have hq : (x == 0) = false := (by simpa using hx); clear h5 hin hc))
    all_goals
      go_ret
      exact .inr ⟨x, b, by unfold rdStr; rw [HR.out], HX.out, rfl, HIN.out, HC.out⟩
  | ok v =>
    obtain ⟨n, r⟩ := v
    have HR := Lib.hid hr
    obtain ⟨hb, h0, h1⟩ := rdNum_sound hr
    have hrl : r.length ≤ 1000000 := by
      have := congrArg List.length hb
      rw [List.length_append] at this
      omega
    obtain ⟨k, rfl⟩ : ∃ k : Nat, n = (k : Int) := ⟨n.toNat, by omega⟩
    have hsz : (bytes r).size = r.length := bytes_size r
    clear hr h hb h1
    by_cases hk : r.length < k
    · have gk1 : ((bytes r).size : Int) < (k : Int) := by omega
      have he : Hid (rdStr hi b = .error 3) := by
        show _ = _
        unfold rdStr; rw [HR.out]
        simp only
        rw [if_pos (by omega)]
      go_enter Tryd.func66, Tryd.ntmps66
      go_wp2_with ((go_at_call 65; refine HN.out.mono ?_; intro e w5 h5; obtain ⟨rfl, hin, hc⟩ := h5.ok HR.out; have HIN := Lib.hid hin; have HC := Lib.hid hc; obtain ⟨c0, c1, f0⟩ := in_cells hin; clear h5 hin hc))
      all_goals
        go_ret
        exact .inr ⟨3, r, he.out, by decide, rfl, HIN.out.err 3, HC.out.trans (Chg.setCell (p := ⟨p, 1, none⟩) (Chg.refl [p] _) (.inl (by simp)) _) (fun k hk => .inl hk)⟩
    · have gk1 : ¬ ((bytes r).size : Int) < (k : Int) := by omega
      have gk2 : (k : Int) ≤ ((bytes r).size : Int) := by omega
      have gk3 : (0 : Int) ≤ (k : Int) := by omega
      have he : Hid (rdStr hi b = .ok (r.take k, r.drop k)) := by
        show _ = _
        unfold rdStr; rw [HR.out]
        simp only
        rw [if_neg (by omega), Int.toNat_natCast]
      go_enter Tryd.func66, Tryd.ntmps66
      go_wp2_with ((go_at_call 65; refine HN.out.mono ?_; intro e w5 h5; obtain ⟨rfl, hin, hc⟩ := h5.ok HR.out; have HIN := Lib.hid hin; have HC := Lib.hid hc; obtain ⟨c0, c1, f0⟩ := in_cells hin; clear h5 hin hc))
      all_goals
        go_ret
        refine .inl ⟨r.take k, r.drop k, he.out, ret_str (bytes_take r k (by omega)), ?_, HC.out.trans (Chg.setCell (p := ⟨p, 0, none⟩) (Chg.refl [p] _) (.inl (by simp)) _) (fun k hk => .inl hk)⟩
        rw [bytes_drop]
        exact HIN.out.left
theorem bytes_empty {b : List UInt8} (h : b ≠ []) : ((bytes b).toList = []) = False := by
  rw [ByteArray.toList_eq]
  simp [bytes, h]
set_option maxRecDepth 100000 in
theorem refEnd_read (p : Nat) (b : List UInt8) (x : Int) (w : World) (h : InR w p b x) : Calls Tryd.prog 43 #[.pointer (some ⟨p, 0, none⟩)] w fun e w' => e = .returned (.int .i64 (if x = 0 ∧ b ≠ [] then 2 else x)) ∧ Chg [p] w w' := by
  obtain ⟨c0, c1, f0⟩ := in_cells h
  by_cases hx : x = 0
  · subst hx
    by_cases hb : b = []
    · subst hb
      have c0' : w.cell? ⟨p, 0, none⟩ = some (.string ⟨#[]⟩) := c0
      rw [if_neg (by simp)]
      clear h c0
      go_enter Tryd.func43, Tryd.ntmps43
      go_wp2
      go_ret
      exact ⟨rfl, Chg.refl _ _⟩
    · rw [if_pos ⟨rfl, hb⟩]
      have hE3 : ¬ (bytes b).toList = [] := by rw [bytes_empty hb]; exact id
      have hE1 : (bytes b).toList.isEmpty = false := by cases h9 : (bytes b).toList with | nil => exact absurd h9 hE3 | cons _ _ => rfl
      have hE2 : ((bytes b).toList == []) = false := by cases h9 : (bytes b).toList with | nil => exact absurd h9 hE3 | cons _ _ => rfl
      clear h hb
      go_enter Tryd.func43, Tryd.ntmps43
      go_wp2
      all_goals
        go_ret
        exact ⟨rfl, Chg.setCell (p := ⟨p, 1, none⟩) (Chg.refl [p] _) (.inl (by simp)) _⟩
  · rw [if_neg (fun h => hx h.1)]
    have hq : (x == 0) = false := by simpa using hx
    clear h
    go_enter Tryd.func43, Tryd.ntmps43
    go_wp2
    all_goals
      go_ret
      exact ⟨rfl, Chg.refl _ _⟩
end Go.Proofs.YtofmbpmmgpbdbaaDoor
