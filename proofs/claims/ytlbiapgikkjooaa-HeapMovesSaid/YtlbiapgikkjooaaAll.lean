/- Both heaps are alike: the law's function all. -/
import Derived.Test.YtlbiapgikkjooaaAlike
namespace Go.Proofs.Ytlbiapgikkjooaa
open Go.RowKit Go.Maps Hp
set_option linter.unusedSimpArgs false
set_option linter.unusedSectionVars false
set_option linter.unusedVariables false
attribute [local go_sem ↓] Go.wp_at_zero Go.wp_at_succ

section
variable {N : Bd} {m c : Nat} {w0 w w' : World} {p q : Nat} {A B : AH} {st : List Int} {φ : Nat → Nat}
theorem duo_phi (h : Duo N w0 p q A st φ m c B w) : ∀ j, A.Reach j → φ j ≤ 4194304 := fun j hj => by
  obtain ⟨F1, F2, L, P, h⟩ := h
  obtain ⟨bp, np, vc, vs, cells, pins, h1, h2, h3, h4, h5⟩ := h.h
  have hl := h2.wf.there j hj
  have := (h2.obj j _ hj (List.getElem?_eq_getElem hl)).2
  have := h2.room
  omega
theorem duo_word (h : Duo N w0 p q A st φ m c B w) {r s : Ref} (hr : A.Ok r) (hs : A.Ok s) : word φ r = word φ s ↔ r = s := by
  refine ⟨fun e => ?_, fun e => by rw [e]⟩
  obtain ⟨F1, F2, L, P, h⟩ := h
  obtain ⟨bp, np, vc, vs, cells, pins, h1, h2, h3, h4, h5⟩ := h.h
  obtain ⟨b, n⟩ := r
  obtain ⟨b', n'⟩ := s
  cases b <;> cases b'
  · have : 2 * n + 1 = 2 * n' + 1 := e
    obtain rfl : n = n' := by omega
    rfl
  · exfalso
    have : 2 * n + 1 = 2 * (φ n'.toNat : Int) := e
    omega
  · exfalso
    have : 2 * (φ n.toNat : Int) = 2 * n' + 1 := e
    omega
  · have e1 : 2 * (φ n.toNat : Int) = 2 * (φ n'.toNat : Int) := e
    have i1 := ok_ix hr rfl
    have i2 := ok_ix hs rfl
    have i1 : 0 ≤ n := i1
    have i2 : 0 ≤ n' := i2
    have r1 : A.Reach n.toNat := ok_names hr ⟨rfl, by show n = _; omega⟩
    have r2 : A.Reach n'.toNat := ok_names hs ⟨rfl, by show n' = _; omega⟩
    by_cases hne : n.toNat = n'.toNat
    · obtain rfl : n = n' := by omega
      rfl
    · exfalso
      have l1 := h2.wf.there _ r1
      have l2 := h2.wf.there _ r2
      have s1 := size_pos A _ l1
      have s2 := size_pos A _ l2
      have := h2.disjoint _ _ r1 r2 hne
      omega
theorem tops {a b : Ref} {x y : Int} (hW : x = y ↔ a = b) : ¬ (a.obj = b.obj ∧ a.n = b.n ∧ (!x == y) = true) ∧ ¬ (¬ a.n = b.n ∧ (x == y) = true) ∧ ¬ (¬ a.obj = b.obj ∧ (x == y) = true) := by
  refine ⟨fun ⟨h1, h2, h3⟩ => ?_, fun ⟨h1, h2⟩ => h1 ?_, fun ⟨h1, h2⟩ => h1 ?_⟩
  · have e : a = b := by cases a; cases b; simp at h1 h2; rw [h1, h2]
    rw [hW.2 e] at h3
    simp at h3
  · rw [hW.1 (by simpa using h2)]
  · rw [hW.1 (by simpa using h2)]
def AllLoop (w : World) (n : Nat) (gk : Nat) (s5 : Value) (wr : World) : Prop := ∃ i : Nat, s5 = .int .i64 i ∧ i ≤ n ∧ i + gk = n ∧ Below w.heap.size w wr
def AllIn (w : World) (n : Nat) (gk : Nat) (s6 : Value) (wr : World) : Prop := ∃ k : Nat, s6 = .int .i64 k ∧ k + gk = n ∧ Below w.heap.size w wr
set_option maxRecDepth 100000 in
set_option maxHeartbeats 3200000 in
theorem all_any (h : Duo N w0 p q A (A.stack.map (word φ)) φ m c A w) (hc : c ≤ 1000000) :
    Calls Try.prog 43 #[.pointer (some ⟨p, 0, none⟩), .pointer (some ⟨q, 0, none⟩)] w fun e w' => e = .returned (.bool true) ∧ Below w.heap.size w w' := by
  have hph := duo_phi h
  have hwf := h.wf
  have HG : Hid (∀ W, Below w.heap.size w W → Calls Try.prog 19 #[.pointer (some ⟨p, 0, none⟩)] W fun e w' => e = .returned (.int .i64 A.stack.length) ∧ W = w') := fun W hW => duo_height (h.later hW)
  have TP : Hid (∀ W (i : Nat), Below w.heap.size w W → Calls Try.prog 21 #[.pointer (some ⟨p, 0, none⟩), .int .i64 i] W fun e w' => e = .returned (.int .i64 (word φ (A.topI (i : Int)))) ∧ Below W.heap.size W w') := fun W i hW => calls_below (duo_top (h.later hW) i)
  have RT : Hid (∀ W (i : Nat), Below w.heap.size w W → Calls Try.prog 35 #[.pointer (some ⟨q, 0, none⟩), .int .i64 i] W fun e w' => e = .returned (.agg #[.bool (A.topI (i : Int)).obj, .int .i64 (A.topI (i : Int)).n]) ∧ Below W.heap.size W w') := fun W i hW => duo_rtop (h.later hW) hc i
  have AL : Hid (∀ W (i : Nat), Below w.heap.size w W → Calls Try.prog 38 #[.pointer (some ⟨p, 0, none⟩), .pointer (some ⟨q, 0, none⟩), .int .i64 (word φ (A.topI (i : Int))), .agg #[.bool (A.topI (i : Int)).obj, .int .i64 (A.topI (i : Int)).n], .int .i64 3] W fun e w' => e = .returned (.bool true) ∧ Below W.heap.size W w') := fun W i hW =>
    alike_any hc rfl hph 3 W (by omega) (h.later hW) (A.topI (i : Int)) (topI_ok hwf _)
  have WD : Hid (∀ i k : Nat, (word φ (A.topI (i : Int)) = word φ (A.topI (k : Int)) ↔ A.topI (i : Int) = A.topI (k : Int))) := fun i k => duo_word h (topI_ok hwf _) (topI_ok hwf _)
  have c2 : ∃ aS cS, ∀ W, Below w.heap.size w W → W.cell? ⟨q, 2, none⟩ = some (.slice aS A.stack.length cS) := by
    obtain ⟨F1, F2, L, P, h⟩ := h
    obtain ⟨vl, vs, vp, hrf, hF⟩ := h.r
    obtain ⟨aS, cS, hvs, _⟩ := hrf.rs.form
    exact ⟨aS, cS, fun W hW => by rw [(hrf.later hW).c2, hvs]⟩
  obtain ⟨aS, cS, c2⟩ := c2
  have HC2 := Lib.hid c2
  have hl : (A.stack.length : Int) ≤ 1000000 := by
    obtain ⟨F1, F2, L, P, h⟩ := h
    have := h.s.bS
    omega
  have c20 := c2 w (Below.refl _ _)
  generalize A.stack.length = s at *
  clear h hph hwf c2 hc
  go_enter Try.func43, Try.ntmps43
  go_wp2
  go_region_held3 (fun w' => w'.cell? ⟨q, 2, none⟩ = some (.slice aS s cS)) (go_keep)
    (first | (go_at_call 19; refine (HG.out _ (by repeat' first | exact Below.refl _ _ | refine below_drew ?_)).mono ?_; rintro e w5 ⟨rfl, rfl⟩))
  have HL : Hid (AllLoop w s s (.int .i64 0) w.drew) := ⟨0, rfl, Nat.zero_le _, Nat.zero_add _, below_drew (Below.refl _ _)⟩
  go_wp2
  go_loopg [5, 6] s (fun gk s5 s6 wr => AllLoop w s gk s5 wr)
  case atStart => exact HL.out
  case round =>
    clear HL
    obtain ⟨i, rfl, hle, hig, hb⟩ := hrel
    have i0 : (0 : Int) ≤ (i : Int) := by omega
    have HIG := Lib.hid hig
    have HB := Lib.hid hb
    have cc := HC2.out wr hb
    clear c20
    by_cases hlt : i < s ∧ i < 12
    · obtain ⟨hl1, hl2⟩ := hlt
      have i1 : (i : Int) < (s : Int) := by omega
      have i2 : (i : Int) < 12 := by omega
      have d1 : decide (i < s) = true := decide_eq_true hl1
      have d2 : decide ((i : Int) < 12) = true := decide_eq_true i2
      clear hig hb hle
      obtain ⟨gk0, hgk0⟩ : ∃ x, x = gk := ⟨_, rfl⟩
      subst hgk0
      go_wp2_with
        (first
        | (go_at_call 21; refine (TP.out _ i HB.out).mono ?_; rintro e w5 ⟨rfl, hb5⟩; have HB5 := Lib.hid (HB.out.trans (hb5.mono HB.out.size)); clear hb5)
        | (go_at_call 35; refine (RT.out _ i HB5.out).mono ?_; rintro e w6 ⟨rfl, hb6⟩; have HB6 := Lib.hid (HB5.out.trans (hb6.mono HB5.out.size)); clear hb6)
        | (go_at_call 38; refine (AL.out _ i HB6.out).mono ?_; rintro e w7 ⟨rfl, hb7⟩; have HB7 := Lib.hid (HB6.out.trans (hb7.mono HB6.out.size)); clear hb7))
      generalize Value.agg #[Value.bool (A.topI (i : Int)).obj, Value.int .i64 (A.topI (i : Int)).n] = v35
      go_loopg [6] i (fun gk s6 wr => AllIn w i gk s6 wr)
      case atStart => exact ⟨0, rfl, Nat.zero_add _, HB7.out⟩
      case round =>
        obtain ⟨k, rfl, hkg, hb⟩ := hrel
        have k0 : (0 : Int) ≤ (k : Int) := by omega
        have HKG := Lib.hid hkg
        have HBK := Lib.hid hb
        by_cases hki : k < i
        · have k1 : (k : Int) < (i : Int) := by omega
          clear hkg hb
          go_wp2_with
            (first
            | ((with_reducible (go_at_call 21; refine (TP.out _ i HBK.out).mono ?_)); rintro e w8 ⟨rfl, hb8⟩; have HB8 := Lib.hid (HBK.out.trans (hb8.mono HBK.out.size)); clear hb8 HBK)
            | ((with_reducible (go_at_call 21; refine (TP.out _ k HB8.out).mono ?_)); rintro e w9 ⟨rfl, hb9⟩; have HB9 := Lib.hid (HB8.out.trans (hb9.mono HB8.out.size)); clear hb9 HB8)
            | ((with_reducible (go_at_call 35; refine (RT.out _ i HB9.out).mono ?_)); rintro e w10 ⟨rfl, hb10⟩; have HB10 := Lib.hid (HB9.out.trans (hb10.mono HB9.out.size)); clear hb10 HB9)
            | ((with_reducible (go_at_call 35; refine (RT.out _ k HB10.out).mono ?_)); rintro e w11 ⟨rfl, hb11⟩; have HB11 := Lib.hid (HB10.out.trans (hb11.mono HB10.out.size)); clear hb11 HB10))
          all_goals first
            | (exfalso; exact (tops (WD.out i k)).1 ⟨by assumption, by assumption, by assumption⟩)
            | (exfalso; exact (tops (WD.out i k)).2.1 ⟨by assumption, by assumption⟩)
            | (exfalso; exact (tops (WD.out i k)).2.2 ⟨by assumption, by assumption⟩)
            | skip
          all_goals
            go_roundg (gk - 1)
            case measure => have := HKG.out; omega
            case rel => exact ⟨k + 1, by go_num, by have := HKG.out; omega, HB11.out⟩
        · have k1 : ¬ (k : Int) < (i : Int) := by omega
          clear hkg hb
          go_wp2
          go_roundg (gk0 - 1)
          case measure => have := HIG.out; omega
          case rel => exact ⟨i + 1, by go_num, by omega, by have := HIG.out; omega, HBK.out⟩
    · clear hig hb
      have d1 : decide (i < s) = decide (i < s) := rfl
      by_cases hl1 : i < s
      · have d1 : decide (i < s) = true := decide_eq_true hl1
        have d2 : ¬ (i : Int) < 12 := by omega
        have d3 : decide ((i : Int) < 12) = false := decide_eq_false d2
        go_wp2
        go_ret
        exact ⟨rfl, HB.out⟩
      · have d1 : decide (i < s) = false := decide_eq_false hl1
        go_wp2
        go_ret
        exact ⟨rfl, HB.out⟩
end
end Go.Proofs.Ytlbiapgikkjooaa
