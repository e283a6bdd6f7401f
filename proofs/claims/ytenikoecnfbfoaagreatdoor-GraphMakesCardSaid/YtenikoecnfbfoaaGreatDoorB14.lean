/- Texts of the proof, in build order: Tame. -/
import Derived.Test.YtenikoecnfbfoaaGreatDoorB12
import Derived.Test.YtenikoecnfbfoaaGreatDoorB13
/- The reference's Tame: a copy of a value that is cut to so many parts, so deep. -/
namespace Go.Proofs.YtenikoecnfbfoaaGreatDoor
open Go.RowKit Go.Maps
set_option linter.unusedVariables false

def cutText (s : ByteArray) : ByteArray := s.extract 0 (min s.size 5000)
namespace VT
mutual
def tame : VT → Int → Int → VT × Int
  | node k n s l, d, left => (node k n (cutText s) (tames l 12 d (left - 1)).1, (tames l 12 d (left - 1)).2)
def tames : List VT → Nat → Int → Int → List VT × Int
  | [], _, _, left => ([], left)
  | t :: ts, m, d, left => if 0 < m ∧ 1 < d ∧ 0 < left then ((tame t (d - 1) left).1 :: (tames ts (m - 1) d (tame t (d - 1) left).2).1, (tames ts (m - 1) d (tame t (d - 1) left).2).2) else ([], left)
end
mutual
theorem tame_left : ∀ (t : VT) (d left : Int), -1000 ≤ left → left ≤ 1000 → -1001 ≤ (tame t d left).2 ∧ (tame t d left).2 ≤ 1000 ∧ (0 < left → -1000 ≤ (tame t d left).2)
  | node k n s l, d, left, h1, h2 => by
    rw [tame]
    have := tames_left l 12 d (left - 1) (by omega) (by omega)
    simp only
    refine ⟨by omega, by omega, fun h => ?_⟩
    have := this.2.2 (by omega)
    omega
theorem tames_left : ∀ (l : List VT) (m : Nat) (d left : Int), -1001 ≤ left → left ≤ 1000 → -1001 ≤ (tames l m d left).2 ∧ (tames l m d left).2 ≤ 1000 ∧ (-1000 ≤ left → -1000 ≤ (tames l m d left).2)
  | [], m, d, left, h1, h2 => by rw [tames]; exact ⟨h1, h2, fun h => h⟩
  | t :: ts, m, d, left, h1, h2 => by
    rw [tames]
    split
    · rename_i hc
      have a := tame_left t (d - 1) left (by omega) h2
      have b := tames_left ts (m - 1) d (tame t (d - 1) left).2 (by omega) (by omega)
      simp only
      exact ⟨b.1, b.2.1, fun h => b.2.2 (a.2.2 hc.2.2)⟩
    · exact ⟨h1, h2, fun h => h⟩
end
end VT

theorem ValIs.form {w : World} {P : Nat → Prop} {t : VT} {v : Value} (h : ValIs w P t v) : ∃ ao cap, v = vval t ao cap := by
  cases t with
  | node k n s l => unfold ValIs at h; obtain ⟨ao, cap, h, _⟩ := h; exact ⟨ao, cap, h⟩
theorem cell_four_new (w : World) (a b c d : Value) (t : TypeId) : ∀ (j : Nat) (u : Value), [a, b, c, d][j]? = some u → (w.alloc (.cells #[a, b, c, d] t)).cell? (Addr.add ⟨w.heap.size, 0, none⟩ j) = some u := by
  intro j u hj
  have hlt := (List.getElem?_eq_some_iff.1 hj).1
  simp at hlt
  have e : (Addr.add ⟨w.heap.size, 0, none⟩ j) = ⟨w.heap.size, j, none⟩ := by unfold Addr.add; split <;> simp_all
  rw [e]
  have : j = 0 ∨ j = 1 ∨ j = 2 ∨ j = 3 := by omega
  rcases this with rfl | rfl | rfl | rfl <;> simpa using hj
theorem cell_four_new2 (w : World) (o : Obj) (a b c d : Value) (t : TypeId) : ∀ (j : Nat) (u : Value), [a, b, c, d][j]? = some u → ((w.alloc o).alloc (.cells #[a, b, c, d] t)).cell? (Addr.add ⟨w.heap.size + 1, 0, none⟩ j) = some u := by
  have := cell_four_new (w.alloc o) a b c d t
  simpa using this
theorem kcell_one (t : VT) (p : Option Addr × Nat) : ∀ u ∈ kcell t p, u.oneCell' = true := by
  intro u hu
  simp only [kcell, List.mem_cons, List.not_mem_nil, or_false] at hu
  rcases hu with rfl | rfl | rfl | rfl <;> rfl
theorem RowZ.alloc {w : World} {e : TypeId} {sz n : Nat} {v : Value} {xs : List Value} (h : RowZ w e sz v n xs) (o : Obj) : RowZ (w.alloc o) e sz v n xs := h.chg ((Chg.refl [] w).alloc o) (fun _ _ => by simp)

def TameEnd (w : World) (r : VT × Int) (e : Ending) (w' : World) : Prop :=
  ∃ v, e = .returned (.tuple #[v, .int .i64 r.2]) ∧ ValIs w' (fun b => w.heap.size ≤ b ∧ b < w'.heap.size) r.1 v ∧ Below w.heap.size w w'
def TameLoop (base : Nat) (W : World) (l : List VT) (d left : Int) (k : Nat) (s8 s9 s2 : Value) (w : World) : Prop :=
  ∃ (i : Nat) (l' : List VT) (q : Int), s9 = .int .i64 i ∧ s2 = .int .i64 q ∧ KRow w base s8 l' ∧ l'.length = i ∧ i + k = 12 ∧ -1001 ≤ q ∧ q ≤ 1000 ∧ VT.tames l 12 d left = (l' ++ (VT.tames (l.drop i) (12 - i) d q).1, (VT.tames (l.drop i) (12 - i) d q).2) ∧ Below base W w

theorem kids_app {wr w5 w' : World} {base g cap : Nat} {v : Value} {l : List VT} {ps : List (Option Addr × Nat)} {t : VT} {p : Option Addr × Nat} {o1 o2 : Obj} (hk : KRow wr base v l) (hbs : base ≤ wr.heap.size) (hb5 : Below wr.heap.size wr w5) (k1 : ps.length = l.length)
    (k3 : ∀ k, v.ownBlock = some k → base ≤ k)
    (k4 : ∀ (i : Nat) (t : VT) (p : Option Addr × Nat), l[i]? = some t → ps[i]? = some p → ValIs w5 (fun b => base ≤ b ∧ b < w5.heap.size ∧ v.ownBlock ≠ some b) t (vval t p.1 p.2))
    (hv : ValIs w5 (fun b => wr.heap.size ≤ b ∧ b < w5.heap.size) t (vval t p.1 p.2))
    (hr : RowZ w' 47 4 (.slice (some ⟨g, 0, none⟩) (l.length + 1) cap) (l.length + 1) (kcells l ps ++ kcell t p)) (hg : ((w5.alloc o1).alloc o2).grownBy w' v.ownBlock) (hl : v.ownBlock = some g ∨ g = ((w5.alloc o1).alloc o2).heap.size) :
    KRow w' base (.slice (some ⟨g, 0, none⟩) (l.length + 1) cap) (l ++ [t]) ∧ Below base wr w' := by
  have hlt : ∀ k, v.ownBlock = some k → k < wr.heap.size := fun k hk' => by obtain ⟨_, _, h2, _, _⟩ := hk; exact h2.lt hk'
  have hA : Below w5.heap.size w5 (w5.alloc o1) := (Below.refl _ _).alloc (Nat.le_refl _) _
  have hs5 := hb5.size
  refine ⟨KRow.app (w := w5.alloc o1) k1 (fun k hk' => ⟨k3 k hk', by have := hlt k hk'; simp; omega⟩) (by simp; omega) (fun i t p ht hp => ?_) ?_ hr hg hl, ?_⟩
  · exact ((k4 i t p ht hp).below hA (fun b hb => hb.2.1)).mono fun b hb => ⟨hb.1, by have := hb.2.1; simp; omega, hb.2.2⟩
  · exact (hv.below hA (fun b hb => hb.2)).mono fun b hb => ⟨by omega, by have := hb.2; simp; omega, fun e => by have := hlt b e; omega⟩
  · have hc : Chg v.ownBlock.toList wr w' := ((((Chg.refl _ wr).thenBelow hb5).alloc o1).alloc o2).grown hg (fun k hk => .inl (by simp [hk]))
    exact hc.below hbs (fun k hk' => k3 k (by simpa using hk'))

theorem hdr4_set {w : World} {p : Nat} {a b c d u : Value} {t : TypeId} {o : Nat} (h : w.heap[p]? = some (.cells #[a, b, c, d] t (0, 0))) : (w.setCell ⟨p, o, none⟩ u).heap[p]? = some (.cells (#[a, b, c, d].setIfInBounds o u) t (0, 0)) := by
  have hlt := lt_of_block h
  have h' : w.heap[p] = .cells #[a, b, c, d] t (0, 0) := by simpa [Array.getElem?_eq_getElem hlt] using h
  show (w.heap.modify p _)[p]? = _
  rw [Array.getElem?_eq_getElem (by simpa using hlt), Array.getElem_modify_self, h']
  rfl
theorem chg1_set (w : World) (p o : Nat) (u : Value) : Chg [p] w (w.setCell ⟨p, o, none⟩ u) := (Chg.refl [p] w).setCell (.inl (by simp)) u
/-- What the six stores at the end leave. -/
theorem six_stores {w : World} {H : Nat} {a b c d x3 x2 y0 y1 y2 y3 : Value} {t : TypeId} (h : w.heap[H + 1]? = some (.cells #[a, b, c, d] t (0, 0))) :
    ((((((w.setCell ⟨H, 3, none⟩ x3).setCell ⟨H, 2, none⟩ x2).setCell ⟨H + 1, 0, none⟩ y0).setCell ⟨H + 1, 1, none⟩ y1).setCell ⟨H + 1, 2, none⟩ y2).setCell ⟨H + 1, 3, none⟩ y3).heap[H + 1]? = some (.cells #[y0, y1, y2, y3] t (0, 0)) ∧
    Chg [H, H + 1] w ((((((w.setCell ⟨H, 3, none⟩ x3).setCell ⟨H, 2, none⟩ x2).setCell ⟨H + 1, 0, none⟩ y0).setCell ⟨H + 1, 1, none⟩ y1).setCell ⟨H + 1, 2, none⟩ y2).setCell ⟨H + 1, 3, none⟩ y3) := by
  have hlt := lt_of_block h
  have c1 : Chg [H] w ((w.setCell ⟨H, 3, none⟩ x3).setCell ⟨H, 2, none⟩ x2) := ((Chg.refl [H] w).setCell (p := ⟨H, 3, none⟩) (.inl (by simp)) _).setCell (p := ⟨H, 2, none⟩) (.inl (by simp)) _
  have h1 := (c1.block (H + 1) hlt (by simp)).trans h
  have h2 := hdr4_set (o := 0) (u := y0) h1
  have h3 := hdr4_set (o := 1) (u := y1) (a := y0) (b := b) (c := c) (d := d) (h2.trans rfl)
  have h4 := hdr4_set (o := 2) (u := y2) (a := y0) (b := y1) (c := c) (d := d) (h3.trans rfl)
  have h5 := hdr4_set (o := 3) (u := y3) (a := y0) (b := y1) (c := y2) (d := d) (h4.trans rfl)
  refine ⟨h5.trans rfl, ?_⟩
  refine (((((c1.mono (by simp)).setCell (p := ⟨H + 1, 0, none⟩) (.inl (by simp)) _).setCell (p := ⟨H + 1, 1, none⟩) (.inl (by simp)) _).setCell (p := ⟨H + 1, 2, none⟩) (.inl (by simp)) _).setCell (p := ⟨H + 1, 3, none⟩) (.inl (by simp)) _)

theorem tame_end {w W2 wr wz : World} {t : VT} {d left q : Int} {ka na : Int} {sa : ByteArray} {la l' : List VT} {ao' : Option Addr} {cap' : Nat} (hsz : W2.heap.size = w.heap.size + 2) (hB2 : Below w.heap.size w W2) (hbe : Below W2.heap.size W2 wr) (hc : Chg [w.heap.size, w.heap.size + 1] wr wz)
    (ht : (VT.node ka na sa la).tame d left = (VT.node ka na (cutText sa) l', q)) (h1 : l'.length ≤ cap') (h2 : cap' ≤ maxLen) (h3 : (cutText sa).size ≤ maxLen) (h4 : (Lit.int .i64 ka).wf = true) (h5 : (Lit.int .i64 na).wf = true) (h6 : ao' = none → cap' = 0)
    (hk : KidsAt wr (fun b => W2.heap.size ≤ b ∧ b < wr.heap.size) l' ao' 0) : TameEnd w ((VT.node ka na sa la).tame d left) (.returned (.tuple #[.agg #[.int .i64 ka, .int .i64 na, .string (cutText sa), .slice ao' l'.length cap'], .int .i64 q])) wz := by
  rw [ht]
  refine ⟨_, rfl, ?_, ?_⟩
  · have hv : ValIs wr (fun b => W2.heap.size ≤ b ∧ b < wr.heap.size) (VT.node ka na (cutText sa) l') (.agg #[.int .i64 ka, .int .i64 na, .string (cutText sa), .slice ao' l'.length cap']) := by
      unfold ValIs; exact ⟨ao', cap', rfl, h1, h2, h3, h4, h5, h6, hk⟩
    exact (hv.chg hc (fun b hb => ⟨hb.2, by simp; omega⟩)).mono fun b hb => ⟨by omega, Nat.lt_of_lt_of_le hb.2 hc.size⟩
  · have hsr := hbe.size
    exact (hB2.trans (hbe.mono (by omega))).trans (hc.below (by omega) (by simp))

set_option maxRecDepth 100000 in
set_option maxHeartbeats 1600000 in
theorem tame_walk (k : Nat) : ∀ (t : VT) (v : Value) (w : World) (P : Nat → Prop) (d left : Int), t.sz ≤ k → ValIs w P t v → (∀ b, P b → b < w.heap.size) → 0 ≤ d → d ≤ 1000 → -1000 ≤ left → left ≤ 1000 →
    Calls Tryz.prog 18 #[v, .int .i64 d, .int .i64 left] w (TameEnd w (t.tame d left)) := by
  induction k with
  | zero => intro t v w P d left hk; cases t; simp [VT.sz] at hk
  | succ k ih =>
    intro t v w P d left hk ht hP hd0 hd1 hl0 hl1
    cases t with
    | node ka na sa la =>
    unfold ValIs at ht
    obtain ⟨ao, cap, rfl, a1, a2, a3, a4, a5, a6, a7⟩ := ht
    unfold maxLen at a2 a3
    go_enter Tryz.func18, Tryz.ntmps18
    go_wp2
    have hcut : sa.extract 0 (if (5000 : Int) < (sa.size : Int) then (5000 : Int) else (sa.size : Int)).toNat = cutText sa := by unfold cutText; congr 1; split <;> omega
    have HCUT := Lib.hid hcut
    clear hcut
    generalize hW2 : (w.alloc _).alloc _ = W2
    have hsz2 : W2.heap.size = w.heap.size + 2 := by rw [← hW2]; simp
    have CA : Hid (W2.heap[w.heap.size]? = some (.cells #[.int .i64 ka, .int .i64 na, .string sa, .slice ao la.length cap] 47 (0, 0))) := by
      show _ = _
      rw [← hW2]; exact (heap_alloc_old _ _ (by simp)).trans (heap_alloc_new _ _)
    have CB : Hid (W2.heap[w.heap.size + 1]? = some (.cells #[.int .i64 0, .int .i64 0, .string ⟨#[]⟩, .slice none 0 0] 47 (0, 0))) := by
      show _ = _
      rw [← hW2]
      have := heap_alloc_new (w.alloc (.cells #[.int .i64 ka, .int .i64 na, .string sa, .slice ao la.length cap] 47)) (.cells #[.int .i64 0, .int .i64 0, .string ⟨#[]⟩, .slice none 0 0] 47)
      simpa using this
    have hB2 : Hid (Below w.heap.size w W2) := by rw [← hW2]; exact ((Below.refl _ _).alloc (Nat.le_refl _) _).alloc (by simp) _
    clear hW2
    have HL : Hid (TameLoop W2.heap.size W2 la d (left - 1) 12 (.slice none 0 0) (.int .i64 0) (.int .i64 (left - 1)) W2) := ⟨0, [], left - 1, rfl, rfl, KRow.nil _ _, rfl, rfl, by omega, by omega, by simp, Below.refl _ _⟩
    go_loopg [8, 9, 2] 12 (fun k s8 s9 s2 wr => TameLoop W2.heap.size W2 la d (left - 1) k s8 s9 s2 wr)
    case atStart => exact HL.out
    case round =>
      clear HL
      obtain ⟨i, l', q, rfl, rfl, hkr, hll, hik, hq0, hq1, htm, hbe⟩ := hrel
      have hszb := hbe.size
      have hA : wr.heap[w.heap.size]? = some (.cells #[.int .i64 ka, .int .i64 na, .string sa, .slice ao la.length cap] 47 (0, 0)) := (hbe.block w.heap.size (by omega)).trans CA.out
      have hB : wr.heap[w.heap.size + 1]? = some (.cells #[.int .i64 0, .int .i64 0, .string ⟨#[]⟩, .slice none 0 0] 47 (0, 0)) := (hbe.block (w.heap.size + 1) (by omega)).trans CB.out
      have dA3 : wr.cell? ⟨w.heap.size, 3, none⟩ = some (.slice ao la.length cap) := by simp [World.cell?, hA]
      have HA := Lib.hid hA
      have HB := Lib.hid hB
      have HTM := Lib.hid htm
      have HBE := Lib.hid hbe
      have HKR := Lib.hid hkr
      have HLL := Lib.hid hll
      have HBW : Hid (Below w.heap.size w wr) := hB2.out.trans (hbe.mono (by omega))
      clear hA hB htm hbe hkr hll
      have hi0 : (0 : Int) ≤ (i : Int) := by omega
      have hi12 : (i : Int) ≤ 12 := by omega
      by_cases hgo : i < la.length ∧ 1 < d ∧ 0 < q ∧ i < 12
      · obtain ⟨g1, g2, g3, g4⟩ := hgo
        have g1' : (i : Int) < (la.length : Int) := by omega
        have g4' : (i : Int) < 12 := by omega
        obtain ⟨tk, htk⟩ : ∃ u, la[i]? = some u := ⟨_, List.getElem?_eq_getElem g1⟩
        obtain ⟨bb, oo, x0, x1, x2, x3, rfl, hbb, p0, p1, p2, p3, hvk⟩ := a7.get htk
        rw [Nat.zero_add] at p0 p1 p2 p3
        have hbb' := hP _ hbb
        replace p0 := (HBW.out.cell (p := ⟨bb, oo + i * 4, none⟩) hbb').trans p0
        replace p1 := (HBW.out.cell (p := ⟨bb, oo + i * 4 + 1, none⟩) hbb').trans p1
        replace p2 := (HBW.out.cell (p := ⟨bb, oo + i * 4 + 2, none⟩) hbb').trans p2
        replace p3 := (HBW.out.cell (p := ⟨bb, oo + i * 4 + 3, none⟩) hbb').trans p3
        have hvk' := Lib.hid (hvk.below HBW.out hP)
        have HPB : Hid (∀ b, P b → b < wr.heap.size) := fun b hb => Nat.lt_of_lt_of_le (hP b hb) HBW.out.size
        have hkid : Hid (tk.sz ≤ k) := by
          have h5 : tk.sz < (VT.node ka na sa la).sz := VT.sz_kid (t := VT.node ka na sa la) htk
          show tk.sz ≤ k; omega
        have hdrop : Hid (la.drop i = tk :: la.drop (i + 1)) := by
          show _ = _
          rw [List.drop_eq_getElem_cons g1]; congr 1; exact Option.some.inj ((List.getElem?_eq_getElem g1).symm.trans htk)
        have hlf := VT.tame_left tk (d - 1) q (by omega) hq1
        have HLF := Lib.hid hlf
        clear hvk htk hlf
        go_wp2_with
          (first
           | ((go_at_call 18; refine (ih tk _ _ P (d - 1) q hkid.out hvk'.out HPB.out (by omega) (by omega) (by omega) hq1).mono ?_; rintro e w5 ⟨v5, rfl, hv5, hb5⟩;
                obtain ⟨ao5, cap5, rfl⟩ := hv5.form; have HV5 := Lib.hid hv5; have HB5 := Lib.hid hb5; obtain ⟨ps, k1, k2, k3, k4⟩ := HKR.out.below hb5; have K1 := Lib.hid k1; have K2 := Lib.hid k2; have K3 := Lib.hid k3; have K4 := Lib.hid k4; clear hv5 hb5 k1 k2 k3 k4; unfold vval))
           | (at_builtin; (refine wpList_appz _ rfl _ _ 29 rfl 47 _ 4 56 Tryz.underlying29 infoV rfl (by decide) u8 l'.length (kcells l' ps) rfl ((K2.out.alloc _).alloc _) ⟨w5.heap.size + 1, 0, none⟩ 1 1 (kcell (tk.tame (d - 1) q).1 (ao5, cap5)) rfl (by omega) rfl (cell_four_new2 _ _ _ _ _ _ _) (kcell_one _ _) (by rw [HLL.out]; omega) (by omega) ?_; intro g cap1 w1 hr1 hg1 hl1)))
        obtain ⟨n1, n2⟩ := kids_app HKR.out HBE.out.size HB5.out K1.out K3.out K4.out HV5.out hr1 hg1 hl1
        go_roundg (gk - 1)
        case measure => omega
        case rel =>
          refine ⟨i + 1, l' ++ [(tk.tame (d - 1) q).1], (tk.tame (d - 1) q).2, by go_num, rfl, n1, by simp [HLL.out], by omega, ?_, HLF.out.2.1, ?_, HBE.out.trans n2⟩
          · have := HLF.out.2.2 g3; omega
          · rw [HTM.out, hdrop.out, VT.tames, if_pos ⟨by omega, g2, g3⟩, show 12 - (i + 1) = 12 - i - 1 by omega]; simp
      · have hx : Hid (VT.tames (la.drop i) (12 - i) d q = ([], q)) := by
          show _ = _
          cases hd : la.drop i with
          | nil => rw [VT.tames]
          | cons t ts =>
            have : i < la.length := by
              have := congrArg List.length hd; simp at this; omega
            rw [VT.tames, if_neg (by omega)]
        obtain ⟨ao', cap', hv8, hle', hcm', hnn', hks⟩ := HKR.out.kids
        subst hv8
        have HKS := Lib.hid hks
        have dA0 : wr.cell? ⟨w.heap.size, 0, none⟩ = some (.int .i64 ka) := by simp [World.cell?, HA.out]
        have dA1 : wr.cell? ⟨w.heap.size, 1, none⟩ = some (.int .i64 na) := by simp [World.cell?, HA.out]
        have dA2 : wr.cell? ⟨w.heap.size, 2, none⟩ = some (.string sa) := by simp [World.cell?, HA.out]
        have fA : ∀ o, wr.frozen? ⟨w.heap.size, o, none⟩ = false := fun o => by simp [World.frozen?, HA.out]
        have dB0 : wr.cell? ⟨w.heap.size + 1, 0, none⟩ = some (.int .i64 0) := by simp [World.cell?, HB.out]
        have dB1 : wr.cell? ⟨w.heap.size + 1, 1, none⟩ = some (.int .i64 0) := by simp [World.cell?, HB.out]
        have dB2 : wr.cell? ⟨w.heap.size + 1, 2, none⟩ = some (.string ⟨#[]⟩) := by simp [World.cell?, HB.out]
        have dB3 : wr.cell? ⟨w.heap.size + 1, 3, none⟩ = some (.slice none 0 0) := by simp [World.cell?, HB.out]
        have fB : ∀ o, wr.frozen? ⟨w.heap.size + 1, o, none⟩ = false := fun o => by simp [World.frozen?, HB.out]
        have hcut := HCUT.out
        have hc0 : (0 : Int) ≤ (if (5000 : Int) < (sa.size : Int) then (5000 : Int) else (sa.size : Int)) := by split <;> omega
        have hc1 : (if (5000 : Int) < (sa.size : Int) then (5000 : Int) else (sa.size : Int)) ≤ (sa.size : Int) := by split <;> omega
        clear hks
        by_cases g1 : (i : Int) < (la.length : Int)
        · by_cases g2 : 1 < d
          · by_cases g3 : 0 < q
            · have g4 : ¬ (i : Int) < 12 := by omega
              go_wp2
              all_goals
                obtain ⟨z1, z2⟩ := six_stores (x3 := .slice ao' l'.length cap') (x2 := .string (cutText sa)) (y0 := .int .i64 ka) (y1 := .int .i64 na) (y2 := .string (cutText sa)) (y3 := .slice ao' l'.length cap') HB.out
                generalize ((((((wr.setCell _ _).setCell _ _).setCell _ _).setCell _ _).setCell _ _).setCell _ _) = wz at z1 z2 ⊢
                have y0 : wz.cell? ⟨w.heap.size + 1, 0, none⟩ = some (.int .i64 ka) := by simp [World.cell?, z1]
                have y1 : wz.cell? ⟨w.heap.size + 1, 1, none⟩ = some (.int .i64 na) := by simp [World.cell?, z1]
                have y2 : wz.cell? ⟨w.heap.size + 1, 2, none⟩ = some (.string (cutText sa)) := by simp [World.cell?, z1]
                have y3 : wz.cell? ⟨w.heap.size + 1, 3, none⟩ = some (.slice ao' l'.length cap') := by simp [World.cell?, z1]
                refine bodyPost_ret (v := .tuple #[.agg #[.int .i64 ka, .int .i64 na, .string (cutText sa), .slice ao' l'.length cap'], .int .i64 q]) (by simp [results, Tryz.results18, go_sem, y0, y1, y2, y3]) rfl ?_
                exact tame_end (t := .node ka na sa la) hsz2 hB2.out HBE.out z2 (by rw [VT.tame, HTM.out, hx.out, List.append_nil]) hle' hcm' (by unfold cutText maxLen; rw [ByteArray.size_extract]; omega) a4 a5 hnn' HKS.out
            · go_wp2
              all_goals
                obtain ⟨z1, z2⟩ := six_stores (x3 := .slice ao' l'.length cap') (x2 := .string (cutText sa)) (y0 := .int .i64 ka) (y1 := .int .i64 na) (y2 := .string (cutText sa)) (y3 := .slice ao' l'.length cap') HB.out
                generalize ((((((wr.setCell _ _).setCell _ _).setCell _ _).setCell _ _).setCell _ _).setCell _ _) = wz at z1 z2 ⊢
                have y0 : wz.cell? ⟨w.heap.size + 1, 0, none⟩ = some (.int .i64 ka) := by simp [World.cell?, z1]
                have y1 : wz.cell? ⟨w.heap.size + 1, 1, none⟩ = some (.int .i64 na) := by simp [World.cell?, z1]
                have y2 : wz.cell? ⟨w.heap.size + 1, 2, none⟩ = some (.string (cutText sa)) := by simp [World.cell?, z1]
                have y3 : wz.cell? ⟨w.heap.size + 1, 3, none⟩ = some (.slice ao' l'.length cap') := by simp [World.cell?, z1]
                refine bodyPost_ret (v := .tuple #[.agg #[.int .i64 ka, .int .i64 na, .string (cutText sa), .slice ao' l'.length cap'], .int .i64 q]) (by simp [results, Tryz.results18, go_sem, y0, y1, y2, y3]) rfl ?_
                exact tame_end (t := .node ka na sa la) hsz2 hB2.out HBE.out z2 (by rw [VT.tame, HTM.out, hx.out, List.append_nil]) hle' hcm' (by unfold cutText maxLen; rw [ByteArray.size_extract]; omega) a4 a5 hnn' HKS.out
          · go_wp2
            all_goals
              obtain ⟨z1, z2⟩ := six_stores (x3 := .slice ao' l'.length cap') (x2 := .string (cutText sa)) (y0 := .int .i64 ka) (y1 := .int .i64 na) (y2 := .string (cutText sa)) (y3 := .slice ao' l'.length cap') HB.out
              generalize ((((((wr.setCell _ _).setCell _ _).setCell _ _).setCell _ _).setCell _ _).setCell _ _) = wz at z1 z2 ⊢
              have y0 : wz.cell? ⟨w.heap.size + 1, 0, none⟩ = some (.int .i64 ka) := by simp [World.cell?, z1]
              have y1 : wz.cell? ⟨w.heap.size + 1, 1, none⟩ = some (.int .i64 na) := by simp [World.cell?, z1]
              have y2 : wz.cell? ⟨w.heap.size + 1, 2, none⟩ = some (.string (cutText sa)) := by simp [World.cell?, z1]
              have y3 : wz.cell? ⟨w.heap.size + 1, 3, none⟩ = some (.slice ao' l'.length cap') := by simp [World.cell?, z1]
              refine bodyPost_ret (v := .tuple #[.agg #[.int .i64 ka, .int .i64 na, .string (cutText sa), .slice ao' l'.length cap'], .int .i64 q]) (by simp [results, Tryz.results18, go_sem, y0, y1, y2, y3]) rfl ?_
              exact tame_end (t := .node ka na sa la) hsz2 hB2.out HBE.out z2 (by rw [VT.tame, HTM.out, hx.out, List.append_nil]) hle' hcm' (by unfold cutText maxLen; rw [ByteArray.size_extract]; omega) a4 a5 hnn' HKS.out
        · go_wp2
          all_goals
            obtain ⟨z1, z2⟩ := six_stores (x3 := .slice ao' l'.length cap') (x2 := .string (cutText sa)) (y0 := .int .i64 ka) (y1 := .int .i64 na) (y2 := .string (cutText sa)) (y3 := .slice ao' l'.length cap') HB.out
            generalize ((((((wr.setCell _ _).setCell _ _).setCell _ _).setCell _ _).setCell _ _).setCell _ _) = wz at z1 z2 ⊢
            have y0 : wz.cell? ⟨w.heap.size + 1, 0, none⟩ = some (.int .i64 ka) := by simp [World.cell?, z1]
            have y1 : wz.cell? ⟨w.heap.size + 1, 1, none⟩ = some (.int .i64 na) := by simp [World.cell?, z1]
            have y2 : wz.cell? ⟨w.heap.size + 1, 2, none⟩ = some (.string (cutText sa)) := by simp [World.cell?, z1]
            have y3 : wz.cell? ⟨w.heap.size + 1, 3, none⟩ = some (.slice ao' l'.length cap') := by simp [World.cell?, z1]
            refine bodyPost_ret (v := .tuple #[.agg #[.int .i64 ka, .int .i64 na, .string (cutText sa), .slice ao' l'.length cap'], .int .i64 q]) (by simp [results, Tryz.results18, go_sem, y0, y1, y2, y3]) rfl ?_
            exact tame_end (t := .node ka na sa la) hsz2 hB2.out HBE.out z2 (by rw [VT.tame, HTM.out, hx.out, List.append_nil]) hle' hcm' (by unfold cutText maxLen; rw [ByteArray.size_extract]; omega) a4 a5 hnn' HKS.out
end Go.Proofs.YtenikoecnfbfoaaGreatDoor
