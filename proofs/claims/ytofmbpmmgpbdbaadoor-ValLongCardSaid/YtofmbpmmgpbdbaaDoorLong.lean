/- The law of long values: the walk. -/
import Derived.Test.YtofmbpmmgpbdbaaDoorByteLaw
import Derived.Laws.MakeOwn
import Derived.Laws.OwnMore
namespace Go.Proofs.YtofmbpmmgpbdbaaDoor
open Go.RowKit Go.Maps Wr
set_option linter.unusedVariables false

def nest : Nat → VT
  | 0 => .node 6 0 ⟨#[]⟩ []
  | m + 1 => .node 3 0 ⟨#[]⟩ [nest m]
theorem nest_right : ∀ (m : Nat) (d : Int), (nest m).right d = decide (d + m ≤ 200)
  | 0, d => by
    rw [nest, VT.right_node, VT.rights_nil]
    have : fitsB 6 0 ⟨#[]⟩ ([] : List VT).length = true := by decide
    rw [this]; simp
  | m + 1, d => by
    rw [nest, VT.right_node, VT.rights_cons, VT.rights_nil, nest_right m (d + 1)]
    have : fitsB 3 0 ⟨#[]⟩ [nest m].length = true := by rw [List.length_singleton]; decide
    rw [this, Bool.eq_iff_iff]
    simp
    omega
theorem nest_enc : ∀ m : Nat, (nest m).enc.length = 3 * m + 1
  | 0 => by
    rw [nest, VT.enc, VT.encs]
    simp [topOf, num, zig, var]
  | m + 1 => by
    rw [nest, VT.enc, VT.encs, VT.encs]
    have := nest_enc m
    simp [topOf, num, zig, var, this]
    omega
theorem nest_err (m : Nat) (hm : m ≤ 1000) : encErr (nest m) = if 1 + m ≤ 200 then 0 else 2 := by
  have h := nest_enc m
  have hr := nest_right m 1
  unfold encErr
  rw [hr, if_pos (show (nest m).enc.length ≤ 16384 by omega)]
  by_cases h2 : 1 + m ≤ 200
  · rw [if_pos h2, if_pos (by simp; omega)]
  · rw [if_neg h2, if_neg (by simp; omega)]
def zeros (n : Nat) : ByteArray := bytes (List.replicate n 0)
def strLeaf (n : Nat) : VT := .node 2 0 (zeros n) []
theorem zeros_size (n : Nat) : (zeros n).size = n := by unfold zeros; rw [bytes_size, List.length_replicate]

/-- 'make([]byte, n)'. -/
theorem run_make_bytes (n : Nat) (hn : n ≤ 1000000000) (w : World) : (Instr.makeSlice 29 (.int .i64 (n : Int)) (.int .i64 (n : Int))).run Tryd.prog w = .ok (.slice (some ⟨w.heap.size, 0, none⟩) n n) (w.alloc (.cells (madeCells #[.int .u8 0] n) 5)) := by
  obtain ⟨i0, hi, hz0, hz1, hz2⟩ := info_parts infoB
  have := run_make (P := Tryd.prog) w 29 5 i0 (.int .u8 0) Tryd.underlying29 hi hz0 .i64 .i64 n n (by omega) (Int.le_refl _) (by rw [hz2]; omega) (by omega)
  rw [hz1, Int.toNat_natCast, Nat.mul_one] at this
  exact this
theorem run_zeros (n : Nat) (w : World) : (convert 29 9 (.slice (some ⟨w.heap.size, 0, none⟩) n n)).run Tryd.prog (w.alloc (.cells (madeCells #[.int .u8 0] n) 5)) = .ok (.string (zeros n)) (w.alloc (.cells (madeCells #[.int .u8 0] n) 5)) := by
  have h := run_convert_bytes_back (P := Tryd.prog) (w.alloc (.cells (madeCells #[.int .u8 0] n) 5)) 29 9 5 ⟨w.heap.size, 0, none⟩ n (List.replicate n 0) Tryd.underlying29 Tryd.underlying5 Tryd.underlying9 (fun j hj => by
    have hj' : j < n := by simpa using hj
    rw [show (Addr.add ⟨w.heap.size, 0, none⟩ j) = ⟨w.heap.size, j, none⟩ by unfold Addr.add; split <;> simp_all]
    have hb := heap_alloc_new w (.cells (madeCells #[.int .u8 0] n) 5)
    unfold World.cell?
    rw [hb]
    simp [madeCells, hj', Nat.mod_one])
  rw [List.length_replicate] at h
  exact h

def LLoop (w0 : World) (n sz : Nat) (k : Nat) (s7 s8 : Value) (w : World) : Prop :=
  ∃ i : Nat, s8 = .int .i64 i ∧ i + k = n ∧ KRow w w0.heap.size s7 (List.replicate i (strLeaf sz)) ∧ Below w0.heap.size w0 w

/-- The box of the value that is being nested. -/
def DLoop (W12 : World) (q dp : Nat) (k : Nat) (s13 : Value) (w : World) : Prop :=
  ∃ (i : Nat) (ao : Option Addr) (cap : Nat), s13 = .int .i64 ((i : Int) + 1) ∧ i + 1 + k = dp ∧ w.heap[q]? = some (.cells #[.int .i64 (nest i).kind, .int .i64 (nest i).num, .string (nest i).text, .slice ao (nest i).kids.length cap] 24 (0, 0)) ∧
    ValIs w (fun b => q < b ∧ b < w.heap.size) (nest i) (vval (nest i) ao cap) ∧ Chg [q] W12 w
theorem nest_next {w : World} {q i : Nat} {ao : Option Addr} {cap : Nat} (hv : ValIs w (fun b => q < b ∧ b < w.heap.size) (nest i) (vval (nest i) ao cap)) (hq : q < w.heap.size)
    (hz : w.heap[q]? = some (.cells #[.int .i64 (nest i).kind, .int .i64 (nest i).num, .string (nest i).text, .slice ao (nest i).kids.length cap] 24 (0, 0))) :
    ∃ wz, wz = ((((w.setCell ⟨q, 0, none⟩ (.int .i64 3)).setCell ⟨q, 1, none⟩ (.int .i64 0)).setCell ⟨q, 2, none⟩ (.string ⟨#[]⟩)).setCell ⟨q, 3, none⟩ (.slice (some ⟨w.heap.size, 0, none⟩) 1 1)).alloc (.cells #[.int .i64 (nest i).kind, .int .i64 (nest i).num, .string (nest i).text, .slice ao (nest i).kids.length cap] 24) ∧
      wz.heap[q]? = some (.cells #[.int .i64 (nest (i + 1)).kind, .int .i64 (nest (i + 1)).num, .string (nest (i + 1)).text, .slice (some ⟨w.heap.size, 0, none⟩) (nest (i + 1)).kids.length 1] 24 (0, 0)) ∧
      ValIs wz (fun b => q < b ∧ b < wz.heap.size) (nest (i + 1)) (vval (nest (i + 1)) (some ⟨w.heap.size, 0, none⟩) 1) ∧ Chg [q] w wz := by
  refine ⟨_, rfl, ?_⟩
  have zx := four_stored (y0 := .int .i64 3) (y1 := .int .i64 0) (y2 := .string ⟨#[]⟩) (y3 := .slice (some ⟨w.heap.size, 0, none⟩) 1 1) hz
  have cx := four_stores (Chg.refl [q] w) (p := q) (.inl (by simp)) (.int .i64 3) (.int .i64 0) (.string ⟨#[]⟩) (.slice (some ⟨w.heap.size, 0, none⟩) 1 1)
  have sx : ((((w.setCell ⟨q, 0, none⟩ (.int .i64 3)).setCell ⟨q, 1, none⟩ (.int .i64 0)).setCell ⟨q, 2, none⟩ (.string ⟨#[]⟩)).setCell ⟨q, 3, none⟩ (.slice (some ⟨w.heap.size, 0, none⟩) 1 1)).heap.size = w.heap.size := by simp
  generalize ((((w.setCell ⟨q, 0, none⟩ (.int .i64 3)).setCell ⟨q, 1, none⟩ (.int .i64 0)).setCell ⟨q, 2, none⟩ (.string ⟨#[]⟩)).setCell ⟨q, 3, none⟩ (.slice (some ⟨w.heap.size, 0, none⟩) 1 1)) = wx at zx cx sx ⊢
  have zz := (heap_alloc_old wx (.cells #[.int .i64 (nest i).kind, .int .i64 (nest i).num, .string (nest i).text, .slice ao (nest i).kids.length cap] 24) (by omega)).trans zx
  have zc := cx.alloc (.cells #[.int .i64 (nest i).kind, .int .i64 (nest i).num, .string (nest i).text, .slice ao (nest i).kids.length cap] 24)
  have hnew := heap_alloc_new wx (.cells #[.int .i64 (nest i).kind, .int .i64 (nest i).num, .string (nest i).text, .slice ao (nest i).kids.length cap] 24)
  rw [sx] at hnew
  have hsz : w.heap.size + 1 ≤ (wx.alloc (.cells #[.int .i64 (nest i).kind, .int .i64 (nest i).num, .string (nest i).text, .slice ao (nest i).kids.length cap] 24)).heap.size := by simp; omega
  generalize wx.alloc (.cells #[.int .i64 (nest i).kind, .int .i64 (nest i).num, .string (nest i).text, .slice ao (nest i).kids.length cap] 24) = wz at zz zc hnew hsz ⊢
  refine ⟨zz, ?_, zc⟩
  unfold vval nest ValIs
  refine ⟨some ⟨w.heap.size, 0, none⟩, 1, rfl, Nat.le_refl _, by unfold maxLen; omega, sz_max _ (by decide), by decide, by decide, (fun h => by cases h), ?_⟩
  unfold KidsAt KidsAt
  refine ⟨⟨w.heap.size, 0, .int .i64 (nest i).kind, .int .i64 (nest i).num, .string (nest i).text, .slice ao (nest i).kids.length cap, rfl, ⟨hq, by omega⟩, by simp [World.cell?, hnew], by simp [World.cell?, hnew], by simp [World.cell?, hnew], by simp [World.cell?, hnew], ?_⟩, trivial⟩
  exact (hv.chg zc (fun b hb => ⟨hb.2, by simp; omega⟩)).mono (fun b hb => ⟨hb.1, by omega⟩)

theorem law_rem (a : Int) (c m lo : Int) (h1 : 0 < m) (h2 : m = lo + 1) (h3 : 0 ≤ c ∧ c ≤ 2000 ∧ m ≤ 1000) : ∃ n : Nat, wrap64 (c + wrap64 ((IntKind.u64.wrap a).tmod m)) = c + (n : Int) ∧ (n : Int) ≤ lo := by
  have hw : 0 ≤ IntKind.u64.wrap a := by show 0 ≤ a % 18446744073709551616; omega
  have e : (IntKind.u64.wrap a).tmod m = IntKind.u64.wrap a % m := Int.tmod_eq_emod_of_nonneg hw
  have b0 := Int.emod_nonneg (IntKind.u64.wrap a) (show m ≠ 0 by omega)
  have b1 := Int.emod_lt_of_pos (IntKind.u64.wrap a) h1
  rw [e]
  generalize IntKind.u64.wrap a % m = x at *
  refine ⟨x.toNat, ?_, by omega⟩
  rw [wrap_id x (by omega) (by omega), wrap_id _ (by omega) (by omega)]
  omega
theorem lt_self (w : World) : w.heap.size ≤ w.heap.size := Nat.le_refl _
set_option maxRecDepth 100000 in
set_option maxHeartbeats 1600000 in
theorem valLong_walk (a0 a1 a2 : Int) (w : World) (hT : Tab w) : Calls Tryd.prog 4 #[.int .i64 a0, .int .i64 a1, .int .i64 a2] w fun e w' => e = .returned (.bool true) ∧ Below w.heap.size w w' := by
  have HT := Lib.hid hT
  clear hT
  obtain ⟨n0, hn0, hb0⟩ := law_rem a0 2 7 6 (by omega) (by omega) (by omega)
  obtain ⟨n1, hn1, hb1⟩ := law_rem a1 1700 700 699 (by omega) (by omega) (by omega)
  obtain ⟨n2, hn2, hb2⟩ := law_rem a2 195 10 9 (by omega) (by omega) (by omega)
  have hmk : ∀ W : World, (Instr.makeSlice 29 (.int .i64 (1700 + (n1 : Int))) (.int .i64 (1700 + (n1 : Int)))).run Tryd.prog W = .ok (.slice (some ⟨W.heap.size, 0, none⟩) (1700 + n1) (1700 + n1)) (W.alloc (.cells (madeCells #[.int .u8 0] (1700 + n1)) 5)) := fun W => by
    have h := run_make_bytes (1700 + n1) (by omega) W
    have e : ((1700 + n1 : Nat) : Int) = 1700 + (n1 : Int) := by omega
    rw [e] at h
    exact h
  have hcv : ∀ W : World, (convert 29 9 (.slice (some ⟨W.heap.size, 0, none⟩) (1700 + n1) (1700 + n1))).run Tryd.prog (W.alloc (.cells (madeCells #[.int .u8 0] (1700 + n1)) 5)) = .ok (.string (zeros (1700 + n1))) (W.alloc (.cells (madeCells #[.int .u8 0] (1700 + n1)) 5)) := fun W => run_zeros (1700 + n1) W
  have HZS : Hid ((zeros (1700 + n1)).size ≤ maxLen) := by show _ ≤ _; rw [zeros_size]; unfold maxLen; omega
  go_enter Tryd.func4, Tryd.ntmps4
  go_wp2
  rw [hn0, hn1, hn2]
  have HL : Hid (LLoop w (2 + n0) (1700 + n1) (2 + n0) (.slice none 0 0) (.int .i64 0) w) := ⟨0, rfl, by omega, KRow.nil _ _, Below.refl _ _⟩
  go_loopg [7, 8] (2 + n0) (fun k s7 s8 wr => LLoop w (2 + n0) (1700 + n1) k s7 s8 wr)
  case atStart => exact HL.out
  case round =>
    clear HL
    obtain ⟨i, rfl, hik, hrow, hb⟩ := hrel
    have HB := Lib.hid hb
    have HKR := Lib.hid hrow
    clear hb
    by_cases hlt : i < 2 + n0
    · obtain ⟨ps, k1, k2, k3, k4⟩ := hrow
      have K1 := Lib.hid k1
      have K2 := Lib.hid k2
      have K3 := Lib.hid k3
      have K4 := Lib.hid k4
      clear k1 k2 k3 k4
      have g1' : (i : Int) < 2 + (n0 : Int) := by omega
      have hi0 : (0 : Int) ≤ (i : Int) := by omega
      go_wp2_with (at_builtin; (refine wpList_appz _ rfl _ _ 22 rfl 24 _ 4 56 Tryd.underlying22 infoV rfl (by decide) u7 (List.replicate i (strLeaf (1700 + n1))).length (kcells (List.replicate i (strLeaf (1700 + n1))) ps) rfl ((K2.out.alloc _).alloc _) ⟨wr.heap.size + 1, 0, none⟩ 1 1 (kcell (strLeaf (1700 + n1)) (none, 0)) rfl (by omega) rfl (cell_four_new2 _ _ _ _ _ _ _) (kcell_one _ _) (by rw [List.length_replicate]; omega) (by omega) ?_; intro g cap1 w1 hr1 hg1 hl1))
      obtain ⟨m1, m2⟩ := kids_app (w5 := wr) (t := strLeaf (1700 + n1)) (p := (none, 0)) HKR.out HB.out.size (Below.refl _ _) K1.out K3.out K4.out (leaf_is wr _ 2 0 (zeros (1700 + n1)) (by decide) (by decide) HZS.out) hr1 hg1 hl1
      go_roundg (gk - 1)
      case measure => omega
      case rel => exact ⟨i + 1, by go_num, by omega, by rw [List.length_replicate] at m1; rw [List.replicate_succ']; exact m1, HB.out.trans m2⟩
    · obtain rfl : i = 2 + n0 := by omega
      obtain ⟨L, hL⟩ : ∃ L, L = List.replicate (2 + n0) (strLeaf (1700 + n1)) := ⟨_, rfl⟩
      have hlen : L.length = 2 + n0 := by rw [hL, List.length_replicate]
      rw [← hL] at hrow
      obtain ⟨ao, cap, hu7, k1, k2, k3, k4⟩ := hrow.kids
      rw [hlen] at k1 hu7
      subst hu7
      have HV : Hid (ValIs wr (fun b => b < wr.heap.size) (.node 4 0 ⟨#[]⟩ L) (.agg #[.int .i64 4, .int .i64 0, .string ⟨#[]⟩, .slice ao (2 + n0) cap])) := by
        show ValIs _ _ _ _
        unfold ValIs
        exact ⟨ao, cap, by rw [hlen], by rw [hlen]; exact k1, k2, sz_max _ (by decide), by decide, by decide, k3, k4.keep (fun b hb => hb.2) (fun _ _ => rfl)⟩
      generalize VT.node 4 0 ⟨#[]⟩ L = TT at HV
      rename World => w3
      clear hrow k1 k2 k3 k4 hL hlen HKR hmk hcv HZS
      have S3 := Lib.hid (lt_self w3)
      go_wp2_with ((go_at_call 11; refine (refEncode_any TT _ _ _ (HV.out.below ((Below.refl _ _).alloc (Nat.le_refl _) _) (fun b hb => hb)) (fun b hb => by simp; omega)).mono ?_; rintro e w11 ⟨rfl, hb11⟩; have z9 := (hb11.block w3.heap.size (by simp)).trans (heap_alloc_new w3 _); have Z9 := Lib.hid z9; have B11 : Hid (Below w3.heap.size w3 w11) := ((Below.refl _ _).alloc (Nat.le_refl _) _).trans (hb11.mono (by simp)); have S11 : Hid (w3.heap.size + 1 ≤ w11.heap.size) := (by have := hb11.size; show _ ≤ _; simpa using this); clear hb11 z9))
      have HL : Hid (DLoop (w11.alloc (.cells #[.int .i64 6, .int .i64 0, .string ⟨#[]⟩, .slice none 0 0] 24)) w11.heap.size (195 + n2) (194 + n2) (.int .i64 1) (w11.alloc (.cells #[.int .i64 6, .int .i64 0, .string ⟨#[]⟩, .slice none 0 0] 24))) := ⟨0, none, 0, rfl, by omega, heap_alloc_new w11 _, leaf_is _ _ 6 0 ⟨#[]⟩ (by decide) (by decide) (sz_max _ (by decide)), Chg.refl _ _⟩
      go_loopg [13] (194 + n2) (fun k s13 wq => DLoop (w11.alloc (.cells #[.int .i64 6, .int .i64 0, .string ⟨#[]⟩, .slice none 0 0] 24)) w11.heap.size (195 + n2) k s13 wq)
      case atStart => exact HL.out
      case round =>
        clear HL
        obtain ⟨i, ao2, cap2, rfl, hik, hz, hv, hc⟩ := hrel
        have HZ := Lib.hid hz
        have HV2 := Lib.hid hv
        have HC := Lib.hid hc
        have hq := lt_of_block hz
        obtain ⟨⟨c0, c1, c2, c3⟩, _⟩ := boxed_of hz
        have y0 := (fun o => (later_box hz o).1.1)
        have y1 := (fun o => (later_box hz o).1.2.1)
        have y2 := (fun o => (later_box hz o).1.2.2.1)
        have y3 := (fun o => (later_box hz o).1.2.2.2)
        have y4 := (fun o j => (later_box hz o).2 j)
        have hne : wr.heap.size ≠ w11.heap.size := by omega
        clear hz hv hc
        by_cases hlt : i + 1 < 195 + n2
        · have g1' : (i : Int) + 1 < 195 + (n2 : Int) := by omega
          have hi0 : (0 : Int) ≤ (i : Int) := by omega
          go_wp2
          obtain ⟨wz, hwz, zz, vz, cz⟩ := nest_next HV2.out hq HZ.out
          rw [← hwz]
          go_roundg (gk - 1)
          case measure => omega
          case rel => exact ⟨i + 1, _, _, by go_num, by omega, zz, vz, HC.out.trans cz (by intro k hk; exact .inl hk)⟩
        · have g2 : (i : Int) + 1 = 195 + (n2 : Int) := by omega
          have HG : Hid (∀ W', Below wr.heap.size wr W' → Boxed W' w3.heap.size (.int .i64 4) (.int .i64 0) (.string ⟨#[]⟩) (.slice ao (2 + n0) cap) ∧ ValIs W' (fun b => b < w3.heap.size) TT (.agg #[.int .i64 4, .int .i64 0, .string ⟨#[]⟩, .slice ao (2 + n0) cap]) ∧ Below w.heap.size w W' ∧ Tab W' ∧ w3.heap.size ≤ wr.heap.size) := by
            intro W' hW
            have hs1 := S11.out
            have hB : Below w3.heap.size w3 wr := (B11.out.trans ((Below.refl _ _).alloc (by omega) _)).trans (HC.out.below (by simp; omega) (by intro k hk; simp at hk; omega))
            have hB' := hB.trans (hW.mono hB.size)
            have hBw : Below w.heap.size w W' := HB.out.trans (hB'.mono HB.out.size)
            have hz9 := ((HC.out.block w3.heap.size (by simp; omega) (by simp; omega)).trans (heap_alloc_old w11 _ (by omega))).trans Z9.out
            exact ⟨boxed_below (boxed_of hz9) hW (by omega), HV.out.below hB' (fun b hb => hb), hBw, HT.out.below hBw, hB.size⟩
          by_cases h200 : i + 1 ≤ 200
          · have h200' : 195 + (n2 : Int) ≤ 200 := by omega
            have HF : Hid (encErr (nest i) = 0) := by show _ = _; rw [nest_err i (by omega), if_pos (by omega)]
            go_wp2_with (first
              | (go_at_call 12; refine (encode_any (nest i) _ wr _ HV2.out (fun b hb => hb.2)).mono ?_; rintro e w15 ⟨v15, rfl, hr15, hb15⟩; rw [HF.out]; have G15 := Lib.hid hb15; obtain ⟨ao15, cap15, rfl, _, _⟩ := hr15.form; obtain ⟨⟨⟨d0, d1, d2, d3⟩, _⟩, _⟩ := HG.out w15 hb15; clear hb15 hr15)
              | (go_at_call 13; refine (vals_any w15 (HG.out _ G15.out).2.2.2.1).mono ?_; rintro e w17 ⟨rfl, hb17⟩; have G17 := Lib.hid (G15.out.trans (hb17.mono G15.out.size)); obtain ⟨⟨⟨f0, f1, f2, f3⟩, _⟩, _⟩ := HG.out w17 G17.out; clear hb17)
              | (go_at_call 14; refine (check_any TT _ w17 _ (HG.out _ G17.out).2.1 (fun b hb => Nat.lt_of_lt_of_le hb (Nat.le_trans (HG.out _ G17.out).2.2.2.2 G17.out.size))).mono ?_; rintro e w19 ⟨rfl, hb19⟩; have G19 := Lib.hid (G17.out.trans (hb19.mono G17.out.size)); clear hb19))
            all_goals
              go_ret
              exact ⟨by first | rfl | (show Ending.returned (.bool (!decide (195 + (n2 : Int) ≤ 200))) = _; rw [decide_eq_false (show ¬ (195 + (n2 : Int) ≤ 200) by omega)]; rfl), (HG.out _ G19.out).2.2.1⟩
          · have h200' : ¬ 195 + (n2 : Int) ≤ 200 := by omega
            have HF : Hid (encErr (nest i) = 2) := by show _ = _; rw [nest_err i (by omega), if_neg (by omega)]
            go_wp2_with (first
              | (go_at_call 12; refine (encode_any (nest i) _ wr _ HV2.out (fun b hb => hb.2)).mono ?_; rintro e w15 ⟨v15, rfl, hr15, hb15⟩; rw [HF.out]; have G15 := Lib.hid hb15; obtain ⟨ao15, cap15, rfl, _, _⟩ := hr15.form; obtain ⟨⟨⟨d0, d1, d2, d3⟩, _⟩, _⟩ := HG.out w15 hb15; clear hb15 hr15)
              | (go_at_call 13; refine (vals_any w15 (HG.out _ G15.out).2.2.2.1).mono ?_; rintro e w17 ⟨rfl, hb17⟩; have G17 := Lib.hid (G15.out.trans (hb17.mono G15.out.size)); obtain ⟨⟨⟨f0, f1, f2, f3⟩, _⟩, _⟩ := HG.out w17 G17.out; clear hb17)
              | (go_at_call 14; refine (check_any TT _ w17 _ (HG.out _ G17.out).2.1 (fun b hb => Nat.lt_of_lt_of_le hb (Nat.le_trans (HG.out _ G17.out).2.2.2.2 G17.out.size))).mono ?_; rintro e w19 ⟨rfl, hb19⟩; have G19 := Lib.hid (G17.out.trans (hb19.mono G17.out.size)); clear hb19))
            all_goals
              go_ret
              exact ⟨by first | rfl | (show Ending.returned (.bool (!decide (195 + (n2 : Int) ≤ 200))) = _; rw [decide_eq_false (show ¬ (195 + (n2 : Int) ≤ 200) by omega)]; rfl), (HG.out _ G19.out).2.2.1⟩
end Go.Proofs.YtofmbpmmgpbdbaaDoor
