/- The law of numbers that are moved, and back: the walk. -/
import Derived.Test.YtofmbpmmgpbdbaaDoorPRow
import Derived.Deep.DeepCutAuto
namespace Go.Proofs.YtofmbpmmgpbdbaaDoor
open Go.RowKit Go.Maps Wr
set_option linter.unusedVariables false

def toP (d : Int) (n : Int) : PW := pw n (n + d)
def backP (d : Int) (n : Int) : PW := pw (n + d) n
def Fine (l : List Int) : Prop := ∀ n ∈ l, 1 ≤ n ∧ n ≤ 1099511627776
theorem toP_val {d n : Int} (h : 1 ≤ n ∧ n ≤ 1099511627776) (h1 : 1 ≤ d) (h2 : d ≤ 1000) : (toP d n).1 = (n, n + d) := pw_val (wf_in (by omega) (by omega)) (wf_in (by omega) (by omega))
theorem backP_val {d n : Int} (h : 1 ≤ n ∧ n ≤ 1099511627776) (h1 : 1 ≤ d) (h2 : d ≤ 1000) : (backP d n).1 = (n + d, n) := pw_val (wf_in (by omega) (by omega)) (wf_in (by omega) (by omega))
theorem first_to {l : List Int} {d n : Int} (hl : Fine l) (h1 : 1 ≤ d) (h2 : d ≤ 1000) (hn : n ∈ l) : firstOf (l.map (toP d)) n = some (n + d) := by
  refine first_some (fun x hx he => ?_) ⟨toP d n, List.mem_map.2 ⟨n, hn, rfl⟩, by rw [toP_val (hl n hn) h1 h2]⟩
  obtain ⟨m, hm, rfl⟩ := List.mem_map.1 hx
  rw [toP_val (hl m hm) h1 h2] at he ⊢
  simp only at he ⊢
  rw [he]
theorem first_back {l : List Int} {d n : Int} (hl : Fine l) (h1 : 1 ≤ d) (h2 : d ≤ 1000) (hn : n ∈ l) : firstOf (l.map (backP d)) (n + d) = some n := by
  refine first_some (fun x hx he => ?_) ⟨backP d n, List.mem_map.2 ⟨n, hn, rfl⟩, by rw [backP_val (hl n hn) h1 h2]⟩
  obtain ⟨m, hm, rfl⟩ := List.mem_map.1 hx
  rw [backP_val (hl m hm) h1 h2] at he ⊢
  simp only at he ⊢
  omega
theorem move_to {t : VT} {d : Int} (hl : Fine t.refs) (h1 : 1 ≤ d) (h2 : d ≤ 1000) : t.move (firstOf (t.refs.map (toP d))) = some (t.shift d) := VT.move_shift t (fun n hn => first_to hl h1 h2 hn)
theorem move_back {t : VT} {d : Int} (hl : Fine t.refs) (h1 : 1 ≤ d) (h2 : d ≤ 1000) : (t.shift d).move (firstOf (t.refs.map (backP d))) = some t := by
  have := VT.move_shift (f := firstOf (t.refs.map (backP d))) (d := -d) (t.shift d) (fun n hn => by
    rw [VT.shift_refs] at hn
    obtain ⟨m, hm, rfl⟩ := List.mem_map.1 hn
    rw [first_back hl h1 h2 hm]
    congr 1
    omega)
  rw [VT.shift_back] at this
  exact this

theorem law_rem (a : Int) (c m lo : Int) (h1 : 0 < m) (h2 : m = lo + 1) (h3 : 0 ≤ c ∧ c ≤ 2000 ∧ m ≤ 1000) : ∃ n : Nat, wrap64 (c + wrap64 ((IntKind.u64.wrap a).tmod m)) = c + (n : Int) ∧ (n : Int) ≤ lo := by
  have hw : 0 ≤ IntKind.u64.wrap a := by show 0 ≤ a % 18446744073709551616; omega
  have e : (IntKind.u64.wrap a).tmod m = IntKind.u64.wrap a % m := Int.tmod_eq_emod_of_nonneg hw
  have b0 := Int.emod_nonneg (IntKind.u64.wrap a) (show m ≠ 0 by omega)
  have b1 := Int.emod_lt_of_pos (IntKind.u64.wrap a) h1
  rw [e]
  generalize IntKind.u64.wrap a % m = x at *
  refine ⟨x.toNat, ?_, by omega⟩
  rw [wrap_id x (by omega) (by omega), wrap_id _ (by omega) (by omega)]
  omega
theorem PRow.form1 {w : World} {N : Nat} {v : Value} {zs : List PW} {y : PW} (h : PRow w N v (zs ++ [y])) : ∃ ao cap, v = .slice ao (zs.length + 1) cap := by
  obtain ⟨ao, cap, e⟩ := h.form
  rw [List.length_append, List.length_singleton] at e
  exact ⟨ao, cap, e⟩
theorem moved_end {w w' : World} {P : Nat → Prop} {t : VT} {e : Ending} (h : MoveEnd w P (some t) e w') : ∃ ao c, e = .returned (.tuple #[.agg #[.int .i64 t.kind, .int .i64 t.num, .string t.text, .slice ao t.kids.length c], .bool true]) ∧ ValIs w' (fun b => b < w'.heap.size) t (vval t ao c) ∧ Below w.heap.size w w' := by
  obtain ⟨v, rfl, hv, hb⟩ := h
  obtain ⟨ao, c, rfl⟩ := hv.form
  exact ⟨ao, c, rfl, hv.mono (fun b hb => hb.2), hb⟩
theorem mv_in {w : World} {t : VT} {v : Value} (h : ValIs w (fun b => b < w.heap.size) t v) (o : Obj) : ValIs (w.alloc o) (fun b => b < (w.alloc o).heap.size) t v := (h.below ((Below.refl _ _).alloc (Nat.le_refl _) _) (fun b hb => hb)).mono (fun b hb => Nat.lt_of_lt_of_le hb (by simp))
theorem mv_in2 {w : World} {N : Nat} {t : VT} {v : Value} (h : ValIs w (fun b => b < N) t v) (hN : N ≤ w.heap.size) (o : Obj) : ValIs (w.alloc o) (fun b => b < (w.alloc o).heap.size) t v := mv_in (h.mono (fun b hb => Nat.lt_of_lt_of_le hb hN)) o
theorem take_next {l : List Int} {i : Nat} {n : Int} (h : l[i]? = some n) : l.take (i + 1) = l.take i ++ [n] := by rw [List.take_add_one, h]; rfl
theorem own_made (w : World) {o : Obj} {w' : World} {v v' : Value} (h : OwnStep (w.drew.alloc o) v w' v') : OwnStep w v w' v' := (OwnStep.made v (((Below.refl w.heap.size w).drew).alloc (Nat.le_refl _) o)).trans h
theorem own_dis {w w' : World} {v v' x : Value} (hd : ∀ k, v.ownBlock = some k → x.ownBlock ≠ some k) (h : OwnStep w v w' v') (hx : ∀ k, x.ownBlock = some k → k < w.heap.size) : ∀ k, v'.ownBlock = some k → x.ownBlock ≠ some k := by
  intro k hk hxk
  rcases h.2 with e | ⟨j, e, hj⟩
  · rw [e] at hk; exact hd k hk hxk
  · rw [e] at hk; cases hk; have := hx _ hxk; omega
theorem own_dis2 {w w' : World} {v v' x : Value} (hd : ∀ k, x.ownBlock = some k → v.ownBlock ≠ some k) (h : OwnStep w v w' v') (hx : ∀ k, x.ownBlock = some k → k < w.heap.size) : ∀ k, x.ownBlock = some k → v'.ownBlock ≠ some k := by
  intro k hk hvk
  rcases h.2 with e | ⟨j, e, hj⟩
  · rw [e] at hvk; exact hd k hk hvk
  · rw [e] at hvk; cases hvk; have := hx _ hk; omega
def M2Loop (w : World) (N M : Nat) (v5 v13 : Value) (l : List Int) (d : Int) (gk : Nat) (s14 : Value) (wr : World) : Prop :=
  ∃ i : Nat, s14 = .int .i64 i ∧ i + gk = l.length ∧ IRow wr N v5 l ∧ IRow wr M v13 (l.map (· + d)) ∧ Below w.heap.size w wr
def MLoop (W6 : World) (N : Nat) (v5 : Value) (l : List Int) (d : Int) (gk : Nat) (s6 s7 s8 : Value) (wr : World) : Prop :=
  ∃ i : Nat, s8 = .int .i64 i ∧ i + gk = l.length ∧ IRow wr N v5 l ∧ Fine (l.take i) ∧ PRow wr W6.heap.size s6 ((l.take i).map (toP d)) ∧ PRow wr W6.heap.size s7 ((l.take i).map (backP d)) ∧ (∀ k, s6.ownBlock = some k → s7.ownBlock ≠ some k) ∧ Below W6.heap.size W6 wr

set_option maxRecDepth 100000 in
set_option maxHeartbeats 1600000 in
theorem valMoves_walk (t : VT) (vt : Value) (by0 : Int) (w : World) (P : Nat → Prop) (hT : Tab w) (hv : ValIs w P t vt) (hP : ∀ x, P x → x < w.heap.size) : Calls Tryd.prog 6 #[vt, .int .i64 by0] w fun e w' => e = .returned (.bool true) ∧ Below w.heap.size w w' := by
  have HT := Lib.hid hT
  have hv0 := hv
  obtain ⟨u, hu⟩ : ∃ u, topTame t = u := ⟨_, rfl⟩
  have H1 : Hid (∀ o, Calls Tryd.prog 10 #[vt] (w.alloc o) (TopEnd (w.alloc o) u)) := fun o => by
    have := top_any t vt (w.alloc o) P (hv.below ((Below.refl _ _).alloc (Nat.le_refl _) _) hP) (fun b hb => by have := hP b hb; simp; omega)
    rwa [hu] at this
  have SU : Hid (u.sz ≤ 1300) := by rw [← hu]; exact topTame_sz t
  obtain ⟨ka, na, sa, la⟩ := t
  unfold ValIs at hv0
  obtain ⟨ao, cap, rfl, a1, a2, a3, a4, a5, a6, a7⟩ := hv0
  obtain ⟨n0, hn0, hb0⟩ := law_rem by0 1 1000 999 (by omega) (by omega) (by omega)
  clear hv a7 hu hT a1 a2 a3 a4 a5 a6 hP
  go_enter Tryd.func6, Tryd.ntmps6
  go_upto_region 2 with (first
    | (go_at_call 10; refine (H1.out _).mono ?_; rintro e w5 ⟨ao5, cap5, rfl, hv5, hb5⟩; clear H1;
       have z5 := (hb5.block w.heap.size (by simp)).trans (heap_alloc_new w _);
       have b5 := boxed_of z5;
       have Z5 := Lib.hid z5;
       obtain ⟨⟨c50, c51, c52, c53⟩, f5⟩ := b5;
       have B5 : Hid (Below w.heap.size w w5) := ((Below.refl _ _).alloc (Nat.le_refl _) _).trans (hb5.mono (by simp));
       have S5 : Hid (w.heap.size + 1 ≤ w5.heap.size) := (by have := hb5.size; show _ ≤ _; simpa using this);
       have V5 : Hid (∀ W, Chg [w.heap.size] w5 W → ValIs W (fun b => w.heap.size + 1 ≤ b ∧ b < w5.heap.size) u (vval u ao5 cap5)) := (fun W hW => (hv5.chg hW (fun b hb => ⟨hb.2, by have := hb.1; simp at this; simp; omega⟩)).mono (fun b hb => ⟨by have := hb.1; simp at this; omega, hb.2⟩));
       clear hb5 hv5 z5)
    | fail)
  have C2 := four_stores (Chg.refl [w.heap.size] w5) (p := w.heap.size) (.inl (by simp)) (.int .i64 u.kind) (.int .i64 u.num) (.string u.text) (.slice ao5 u.kids.length cap5)
  have Z2 := four_stored (y0 := .int .i64 u.kind) (y1 := .int .i64 u.num) (y2 := .string u.text) (y3 := .slice ao5 u.kids.length cap5) Z5.out
  generalize ((((w5.setCell _ _).setCell _ _).setCell _ _).setCell _ _) = W2 at C2 Z2 ⊢
  have HG : Hid (∀ W', Below W2.heap.size W2 W' → Boxed W' w.heap.size (.int .i64 u.kind) (.int .i64 u.num) (.string u.text) (.slice ao5 u.kids.length cap5) ∧ ValIs W' (fun b => b < W2.heap.size) u (.agg #[.int .i64 u.kind, .int .i64 u.num, .string u.text, .slice ao5 u.kids.length cap5]) ∧ Below w.heap.size w W' ∧ Tab W' ∧ W2.heap.size ≤ W'.heap.size) := by
    intro W' hW
    have hB : Below w.heap.size w W' := (B5.out.trans (C2.below B5.out.size (by simp))).trans (hW.mono (Nat.le_trans B5.out.size C2.size))
    refine ⟨boxed_below (boxed_of Z2) hW (lt_of_block Z2), ?_, hB, HT.out.below hB, hW.size⟩
    exact ((V5.out W2 C2).below hW (fun b hb => Nat.lt_of_lt_of_le hb.2 C2.size)).mono (fun b hb => Nat.lt_of_lt_of_le hb.2 C2.size)
  have HR := Lib.hid (Below.refl W2.heap.size W2)
  obtain ⟨⟨⟨c0, c1, c2, c3⟩, _⟩, _⟩ := HG.out W2 HR.out
  clear C2 Z2 V5 Z5 c50 c51 c52 c53 f5 B5 S5
  obtain ⟨rl, hrl⟩ : ∃ rl, u.refs = rl := ⟨_, rfl⟩
  have HRL := Lib.hid hrl
  have SRL : Hid (rl.length ≤ 1300) := by show rl.length ≤ 1300; rw [← hrl]; exact Nat.le_trans (VT.refs_len u) SU.out
  have HRF : Hid (Calls Tryd.prog 16 #[.agg #[.int .i64 u.kind, .int .i64 u.num, .string u.text, .slice ao5 u.kids.length cap5]] W2 (RefsEnd W2 rl)) := by
    have := refs_walk u.sz u _ W2 _ (Nat.le_refl _) (HG.out W2 HR.out).2.1 (fun b hb => hb) (by have := SU.out; omega)
    rwa [hrl] at this
  clear hrl
  go_wp2_with (go_at_call 16; refine HRF.out.mono ?_; rintro e w6 ⟨v6, rfl, hr6, hb6⟩; obtain ⟨ao6, cap6, rfl, hl6, hm6⟩ := hr6.form; have R6 := Lib.hid hr6; have B6 := Lib.hid hb6; clear hr6 hb6)

  obtain ⟨d, hd⟩ : ∃ d : Int, d = 1 + (n0 : Int) := ⟨_, rfl⟩
  have hd1 : 1 ≤ d := by omega
  have hd2 : d ≤ 1000 := by omega
  rw [← hd]
  clear hn0 hd hb0 HRF
  unfold maxLen at hm6
  have HL : Hid (MLoop w6 W2.heap.size (.slice ao6 rl.length cap6) rl d rl.length (.slice none 0 0) (.slice none 0 0) (.int .i64 0) w6) := ⟨0, rfl, by omega, R6.out, (by intro n hn; simp at hn), PRow.nil _ _, PRow.nil _ _, (by intro k hk; simp [Value.ownBlock] at hk), Below.refl _ _⟩
  go_loopg [6, 7, 8] rl.length (fun gk s6 s7 s8 wr => MLoop w6 W2.heap.size (.slice ao6 rl.length cap6) rl d gk s6 s7 s8 wr)
  case atStart => exact HL.out
  case round =>
    clear HL
    obtain ⟨i, rfl, hik, hr, hfi, hto, hba, hdis, hb⟩ := hrel
    have HFI := Lib.hid hfi
    have HTO := Lib.hid hto
    have HBA := Lib.hid hba
    have HDI := Lib.hid hdis
    have HB := Lib.hid hb
    have B2R := Lib.hid (B6.out.trans (hb.mono B6.out.size))
    have HRR := Lib.hid hr
    clear hfi hto hba hdis hb c0 c1 c2 c3
    have g0 : (0 : Int) ≤ (i : Int) := by omega
    by_cases hlt : i < rl.length
    · have g1 : (i : Int) < (rl.length : Int) := by omega
      obtain ⟨g, rfl, p0⟩ := hr.cell hlt
      obtain ⟨n, hn⟩ : ∃ n, rl.getD i 0 = n := ⟨_, rfl⟩
      have hget : rl[i]? = some n := by rw [← hn]; simp [List.getD, hlt]
      rw [hn] at p0
      have HGET := Lib.hid hget
      clear hn hget hr
      by_cases hbad : n < 1 ∨ 1099511627776 < n
      · rcases hbad with hq | hq
        · go_wp2_with (go_at_call 13; refine (vals_any wr (HG.out _ B2R.out).2.2.2.1).mono ?_; rintro e w9 ⟨rfl, hb9⟩; have B9 := Lib.hid (B2R.out.trans (hb9.mono B2R.out.size)); clear hb9)
          go_ret
          exact ⟨rfl, (HG.out _ B9.out).2.2.1⟩
        · have hq1 : ¬ n < 1 := by omega
          go_wp2_with (go_at_call 13; refine (vals_any wr (HG.out _ B2R.out).2.2.2.1).mono ?_; rintro e w9 ⟨rfl, hb9⟩; have B9 := Lib.hid (B2R.out.trans (hb9.mono B2R.out.size)); clear hb9)
          go_ret
          exact ⟨rfl, (HG.out _ B9.out).2.2.1⟩
      · have hq1 : ¬ n < 1 := by omega
        have hq2 : ¬ 1099511627776 < n := by omega
        have hw1 : IntKind.i64.wrap (n + d) = n + d := by rw [IntKind.wrap_i64]; omega
        have HTV := Lib.hid (toP_val (d := d) (n := n) ⟨by omega, by omega⟩ hd1 hd2)
        have HBV := Lib.hid (backP_val (d := d) (n := n) ⟨by omega, by omega⟩ hd1 hd2)
        obtain ⟨zt, hzt⟩ : ∃ z, z = (rl.take i).map (toP d) := ⟨_, rfl⟩
        obtain ⟨zb, hzb⟩ : ∃ z, z = (rl.take i).map (backP d) := ⟨_, rfl⟩
        have HZT := Lib.hid hzt
        have HZB := Lib.hid hzb
        have LZT : Hid (zt.length ≤ 1300) := by have := SRL.out; show zt.length ≤ 1300; rw [hzt, List.length_map, List.length_take]; omega
        have LZB : Hid (zb.length ≤ 1300) := by have := SRL.out; show zb.length ≤ 1300; rw [hzb, List.length_map, List.length_take]; omega
        rw [← hzt] at HTO
        rw [← hzb] at HBA
        clear hzt hzb
        obtain ⟨aot, ct, rfl⟩ := HTO.out.form
        obtain ⟨aob, cb, rfl⟩ := HBA.out.form
        have p1 : wr.drew.cell? ⟨g, i, none⟩ = some (.int .i64 n) := p0
        have p2 := fun o => new_ne' wr.drew p1 o
        go_wp2
        go_region_law (first
          | (refine step_appp (w := wr.drew.alloc (.cells #[.int .i64 n, .int .i64 (n + d)] 43)) (by rfl) _ _ rfl (N := w6.heap.size) (zs := zt) (y := toP d n) (by rfl) (HTO.out.chg (((Chg.refl [] wr).drewN 1).alloc _) (by simp)) (ad := ⟨wr.drew.heap.size, 0, none⟩) (c := 1) (by rfl) (by rw [HTV.out]; exact cell_two_new _ _ _ _) (by have := HB.out.size; simp; omega) (by have := LZT.out; omega) ?_; intro v10 w10 hr10 ho10; obtain ⟨ao10, c10, rfl⟩ := hr10.form1; have R10 := Lib.hid hr10; have O10 := Lib.hid (own_made wr ho10); clear hr10 ho10))
        all_goals
          have B10 : Hid (Below w6.heap.size w6 w10) := HB.out.trans (O10.out.below HB.out.size HTO.out.2)
          have A10 : Hid (PRow w10 w6.heap.size (.slice aob zb.length cb) zb) := HBA.out.chg O10.out.1 (fun k hk hm => HDI.out k (by simpa using hm) hk)
          have D10 : Hid (∀ k, (Value.slice ao10 (zt.length + 1) c10).ownBlock = some k → (Value.slice aob zb.length cb).ownBlock ≠ some k) := own_dis HDI.out O10.out (fun k hk => HBA.out.1.lt hk)
          have q1 : w10.drew.cell? ⟨g, i, none⟩ = some (.int .i64 n) := (B10.out.cell (p := ⟨g, i, none⟩) (R6.out.1.lt rfl)).trans ((HB.out.cell (p := ⟨g, i, none⟩) (R6.out.1.lt rfl)).symm.trans p0)
          have q2 := fun o => new_ne' w10.drew q1 o
          go_wp2
          go_region_law (first
            | (refine step_appp (w := w10.drew.alloc (.cells #[.int .i64 (n + d), .int .i64 n] 43)) (by rfl) _ _ rfl (N := w6.heap.size) (zs := zb) (y := backP d n) (by rfl) (A10.out.chg (((Chg.refl [] w10).drewN 1).alloc _) (by simp)) (ad := ⟨w10.drew.heap.size, 0, none⟩) (c := 1) (by rfl) (by rw [HBV.out]; exact cell_two_new _ _ _ _) (by have := B10.out.size; simp; omega) (by have := LZB.out; omega) ?_; intro v12 w12 hr12 ho12; have R12 := Lib.hid hr12; have O12 := Lib.hid (own_made w10 ho12); clear hr12 ho12))
          all_goals go_wp2
          all_goals
            have B12 : Hid (Below w6.heap.size w6 w12) := B10.out.trans (O12.out.below B10.out.size A10.out.2)
            have T12 : Hid (PRow w12 w6.heap.size (.slice ao10 (zt.length + 1) c10) (zt ++ [toP d n])) := R10.out.chg O12.out.1 (fun k hk hm => D10.out k hk (by simpa using hm))
            have D12 := own_dis2 D10.out O12.out (fun k hk => R10.out.1.lt hk)
            go_roundg (gk - 1)
            case measure => omega
            case rel =>
              refine ⟨i + 1, by go_num, by omega, R6.out.below B12.out, ?_, ?_, ?_, D12, B12.out⟩
              · rw [take_next HGET.out]
                intro m hm
                rcases List.mem_append.1 hm with h | h
                · exact HFI.out m h
                · rw [List.mem_singleton.1 h]; omega
              · rw [take_next HGET.out, List.map_append, ← HZT.out]; exact T12.out
              · rw [take_next HGET.out, List.map_append, ← HZB.out]; exact R12.out
    · obtain rfl : i = rl.length := by omega
      clear hr
      have hfr : Fine rl := by have := HFI.out; rwa [List.take_length] at this
      rw [List.take_length] at HTO HBA
      obtain ⟨us, hus⟩ : ∃ us, u.shift d = us := ⟨_, rfl⟩
      have hm1 : u.move (firstOf (rl.map (toP d))) = some us := by rw [← HRL.out, ← hus]; exact move_to (by rw [HRL.out]; exact hfr) hd1 hd2
      have hm2 : us.move (firstOf (rl.map (backP d))) = some u := by rw [← HRL.out, ← hus]; exact move_back (by rw [HRL.out]; exact hfr) hd1 hd2
      have hrs : us.refs = rl.map (· + d) := by rw [← hus, VT.shift_refs, HRL.out]
      have hss : us.sz ≤ 1300 := by rw [← hus, VT.shift_sz]; exact SU.out
      obtain ⟨⟨⟨c0, c1, c2, c3⟩, _⟩, _⟩ := HG.out wr B2R.out
      have HMV1 : Hid (Calls Tryd.prog 18 #[.agg #[.int .i64 u.kind, .int .i64 u.num, .string u.text, .slice ao5 u.kids.length cap5], u6] wr fun e w' => ∃ ao c, e = .returned (.tuple #[.agg #[.int .i64 us.kind, .int .i64 us.num, .string us.text, .slice ao us.kids.length c], .bool true]) ∧ ValIs w' (fun b => b < w'.heap.size) us (vval us ao c) ∧ Below wr.heap.size wr w') := by
        have := move_any u (vval u ao5 cap5) wr _ u6 (rl.map (toP d)) (by have := SU.out; omega) (HG.out _ B2R.out).2.1 (fun b hb => Nat.lt_of_lt_of_le hb (HG.out _ B2R.out).2.2.2.2) (by rw [List.length_map]; have := SRL.out; omega) HTO.out.is (by obtain ⟨ao, c, e⟩ := HTO.out.form; exact ⟨ao, _, c, e⟩)
        rw [hm1] at this
        exact this.mono fun e w' h => moved_end h
      have HMV2 : Hid (∀ (W : World) (va : Value), Below wr.heap.size wr W → ValIs W (fun b => b < W.heap.size) us va → Calls Tryd.prog 18 #[va, u7] W fun e w' => ∃ ao c, e = .returned (.tuple #[.agg #[.int .i64 u.kind, .int .i64 u.num, .string u.text, .slice ao u.kids.length c], .bool true]) ∧ ValIs w' (fun b => b < w'.heap.size) u (vval u ao c) ∧ Below W.heap.size W w') := fun W va hW hva => by
        have := move_any us va W _ u7 (rl.map (backP d)) (by omega) hva (fun b hb => hb) (by rw [List.length_map]; have := SRL.out; omega) (HBA.out.chg (below_chg hW) (by simp)).is (by obtain ⟨ao, c, e⟩ := HBA.out.form; exact ⟨ao, _, c, e⟩)
        rw [hm2] at this
        exact this.mono fun e w' h => moved_end h
      have HRS := Lib.hid hrs
      have HSS := Lib.hid hss
      have HSM := Lib.hid (VT.same_refl u)
      have HFR := Lib.hid hfr
      obtain ⟨aot, ct, hut⟩ := HTO.out.form
      obtain ⟨aob, cb, hub⟩ := HBA.out.form
      rw [List.length_map] at hut hub
      subst hut hub
      clear hm1 hm2 hrs hss hus hfr HFI HDI
      go_wp2_with (first
        | (go_at_call 18; with_reducible refine HMV1.out.mono ?_; clear HMV1; rintro e w9 ⟨ao9, c9, rfl, hv9, hb9⟩; have V9 := Lib.hid hv9; have BR9 := Lib.hid (hb9.trans ((Below.refl _ _).alloc hb9.size (.cells #[.int .i64 us.kind, .int .i64 us.num, .string us.text, .slice ao9 us.kids.length c9] 24 (0, 0)))); clear hv9 hb9)
        | (go_at_call 18; refine (HMV2.out (w9.alloc (.cells #[.int .i64 us.kind, .int .i64 us.num, .string us.text, .slice ao9 us.kids.length c9] 24 (0, 0))) _ BR9.out (mv_in V9.out _)).mono ?_; clear HMV2; rintro e w11 ⟨ao11, c11, rfl, hv11, hb11⟩; have za11 := (hb11.block w9.heap.size (by simp)).trans (heap_alloc_new w9 _); have yA := (fun o => (later_box za11 o).1.1); have yB := (fun o => (later_box za11 o).1.2.1); have yC := (fun o => (later_box za11 o).1.2.2.1); have yD := (fun o => (later_box za11 o).1.2.2.2); have hne : w11.heap.size ≠ w9.heap.size := (by have := lt_of_block za11; omega); have V11 := Lib.hid hv11; have VA11 := Lib.hid ((mv_in V9.out (.cells #[.int .i64 us.kind, .int .i64 us.num, .string us.text, .slice ao9 us.kids.length c9] 24 (0, 0))).below hb11 (fun b hb => hb)); have S11 := Lib.hid hb11.size; have BR11 := Lib.hid (BR9.out.trans (hb11.mono BR9.out.size)); clear hv11 hb11 za11)
        | (go_at_call 16; refine (refs_walk us.sz us _ (w11.alloc (.cells #[.int .i64 u.kind, .int .i64 u.num, .string u.text, .slice ao11 u.kids.length c11] 24 (0, 0))) _ (Nat.le_refl _) (mv_in2 VA11.out S11.out _) (fun b hb => hb) (by have := HSS.out; omega)).mono ?_; rintro e w13 ⟨v13, rfl, hr13, hb13⟩; rw [HRS.out] at hr13; obtain ⟨ao13, cap13, hv13, hl13, hm13⟩ := hr13.form; rw [List.length_map] at hv13 hl13; subst hv13; have zb13 := (hb13.block w11.heap.size (by simp)).trans (heap_alloc_new w11 _); have ZB13 := Lib.hid zb13; have R13 := Lib.hid hr13; have V13 := Lib.hid ((mv_in V11.out (.cells #[.int .i64 u.kind, .int .i64 u.num, .string u.text, .slice ao11 u.kids.length c11] 24 (0, 0))).below hb13 (fun b hb => hb)); have S13 := Lib.hid hb13.size; have BR13 := Lib.hid ((BR11.out.trans ((Below.refl _ _).alloc BR11.out.size _)).trans (hb13.mono (by have := BR11.out.size; simp; omega))); (unfold maxLen at hm13); clear hr13 hb13 zb13)
        | (go_at_call 13; refine (vals_any w13 (HG.out _ (B2R.out.trans (BR13.out.mono B2R.out.size))).2.2.2.1).mono ?_; rintro e w14 ⟨rfl, hb14⟩; have zb14 := (hb14.block w11.heap.size (lt_of_block ZB13.out)).trans ZB13.out; obtain ⟨d0, d1, d2, d3, _⟩ := hdr4_cells zb14; have B14 := Lib.hid ((B2R.out.trans (BR13.out.mono B2R.out.size)).trans (hb14.mono (B2R.out.trans (BR13.out.mono B2R.out.size)).size)); obtain ⟨⟨⟨e0, e1, e2, e3⟩, _⟩, _⟩ := HG.out w14 B14.out; have R14 := Lib.hid (R13.out.below hb14); have V14 := Lib.hid ((V13.out.mono (fun b hb => Nat.lt_of_lt_of_le hb S13.out)).below hb14 (fun b hb => hb)); have S14 := Lib.hid hb14.size; have BR14 := Lib.hid (BR13.out.trans (hb14.mono BR13.out.size)); clear hb14 zb14)
        | (go_at_call 15; refine (refSame_walk u.sz u u _ _ w14 (fun b => b < w14.heap.size) (Nat.le_refl _) (V14.out.mono (fun b hb => Nat.lt_of_lt_of_le hb S14.out)) ((HG.out _ B14.out).2.1.mono (fun b hb => Nat.lt_of_lt_of_le hb (HG.out _ B14.out).2.2.2.2)) (fun b hb => hb)).mono ?_; rintro e w15 ⟨rfl, hb15⟩; rw [HSM.out]; have B15 := Lib.hid (B14.out.trans (hb15.mono B14.out.size)); have R15 := Lib.hid (R14.out.below hb15); have RR15 := Lib.hid ((HRR.out.below BR14.out).below hb15); clear hb15))
      have HL2 : Hid (M2Loop w W2.heap.size (w11.heap.size + 1) (.slice ao6 rl.length cap6) (.slice ao13 rl.length cap13) rl d rl.length (.int .i64 0) w15) := ⟨0, rfl, by omega, RR15.out, ⟨R15.out.1, fun k hk => by have := R15.out.2 k hk; simpa using this⟩, (HG.out _ B15.out).2.2.1⟩
      go_loopg [14] rl.length (fun gk s14 wq => M2Loop w W2.heap.size (w11.heap.size + 1) (.slice ao6 rl.length cap6) (.slice ao13 rl.length cap13) rl d gk s14 wq)
      case atStart => exact HL2.out
      case round =>
        clear HL2
        obtain ⟨i, rfl, hik, hr1, hr2, hbq⟩ := hrel
        have HR1 := Lib.hid hr1
        have HR2 := Lib.hid hr2
        have HBQ := Lib.hid hbq
        clear hbq
        have g0 : (0 : Int) ≤ (i : Int) := by omega
        by_cases hlt : i < rl.length
        · have g1 : (i : Int) < (rl.length : Int) := by omega
          obtain ⟨g, rfl, p0⟩ := hr1.cell hlt
          obtain ⟨g', rfl, q0⟩ := hr2.cell (i := i) (by rw [List.length_map]; exact hlt)
          obtain ⟨n, hn⟩ : ∃ n, rl.getD i 0 = n := ⟨_, rfl⟩
          have hget : rl[i]? = some n := by rw [← hn]; simp [List.getD, hlt]
          have hfn := HFR.out n (List.mem_of_getElem? hget)
          have hmn : (rl.map (· + d)).getD i 0 = n + d := by simp [List.getD, List.getElem?_map, hget]
          rw [hn] at p0
          rw [hmn] at q0
          have hw1 : IntKind.i64.wrap (n + d) = n + d := by rw [IntKind.wrap_i64]; omega
          clear hn hget hmn hr1 hr2
          go_wp2
          go_quiet (fail)
          go_wp2
          go_roundg (gk - 1)
          case measure => omega
          case rel => exact ⟨i + 1, by go_num, by omega, HR1.out.below (below_drewN (Below.refl _ _) _), HR2.out.below (below_drewN (Below.refl _ _) _), HBQ.out.trans (below_drewN ((Below.refl _ _).mono HBQ.out.size) _)⟩
        · obtain rfl : i = rl.length := by omega
          go_wp2
          go_ret
          exact ⟨rfl, HBQ.out⟩
end Go.Proofs.YtofmbpmmgpbdbaaDoor
