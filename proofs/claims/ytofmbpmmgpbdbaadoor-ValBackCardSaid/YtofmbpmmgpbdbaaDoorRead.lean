/- The reference's read: a value out of bytes. -/
import Derived.Test.YtofmbpmmgpbdbaaDoorRdFn
import Derived.Deep.DeepCutAuto
import Derived.Deep.CutBlock
namespace Go.Proofs.YtofmbpmmgpbdbaaDoor
open Go.RowKit Go.Maps Wr
set_option linter.unusedVariables false

/-- 'append(l, v)' of a value that lies in a box, at a step of a region that draws its order. -/
theorem step_appz {w : World} {ops : Array Oper} {o : Oper} {a : Act} {K : Act → World → Prop} {Q : Exit → Act → World → Prop} {E : Prop} (hgd : o.guard = none) (s x : Operand)
    (ho : o.op = .call { callee := .builtin .append, args := #[s, x], argTypes := #[22, 22] }) {v : Value} {n : Nat} {xs news : List Value} (hs : a.eval s = v) (hr : RowZ w 24 4 v n xs) {ad : Addr} {c : Nat} (hx : a.eval x = .slice (some ad) 1 c)
    (hl : news.length = 4) (hnews : ∀ j u, news[j]? = some u → w.cell? (ad.add j) = some u) (h1 : ∀ u ∈ news, u.oneCell' = true) (h63 : n ≤ 1000000)
    (h : ∀ g cap w', RowZ w' 24 4 (.slice (some ⟨g, 0, none⟩) (n + 1) cap) (n + 1) (xs ++ news) → w.grownBy w' v.ownBlock → (v.ownBlock = some g ∨ g = w.heap.size) → K (a.put o.dst (.slice (some ⟨g, 0, none⟩) (n + 1) cap)) w') : if Region.wanted o (yielded ops a.tmps) = true then Oper.wp Tryd.prog o a w K Q else E := by
  obtain ⟨i0, hi, hz0, hz1, hz2⟩ := info_parts infoV
  exact step_append_lies w hgd s x 22 ho 0 24 i0 _ 4 56 Tryd.underlying22 hi hz0 hz1 hz2 rfl (by decide) v n xs hs hr ad 1 c news hx hl hnews h1 (by omega) (by unfold maxLen; omega) (by omega) (by omega) w.heap.size rfl (fun g cap w' a1 a2 a3 _ => h g cap w' a1 a2 a3)
theorem KRow.chg {w w' : World} {base : Nat} {v : Value} {l : List VT} {F : List Nat} (h : KRow w base v l) (hc : Chg F w w') (hF : ∀ k ∈ F, k < base) : KRow w' base v l := by
  obtain ⟨ps, h1, h2, h3, h4⟩ := h
  refine ⟨ps, h1, h2.chg hc (fun k hk hm => by have := h3 k hk; have := hF k hm; omega), h3, fun i t p ht hp => ?_⟩
  exact ((h4 i t p ht hp).chg hc (fun b hb => ⟨hb.2.1, fun hm => by have := hF b hm; omega⟩)).mono fun b hb => ⟨hb.1, Nat.lt_of_lt_of_le hb.2.1 hc.size, hb.2.2⟩
def RdEnd (I : World → Nat → List UInt8 → Int → Prop) (w : World) (p : Nat) (a : VT × List UInt8 × Int) (e : Ending) (w' : World) : Prop :=
  ∃ v, e = .returned v ∧ ValIs w' (fun b => w.heap.size ≤ b ∧ b < w'.heap.size) a.1 v ∧ I w' p a.2.1 a.2.2 ∧ Chg [p] w w'
/-- Behind the switch. -/
def RdHead (I : World → Nat → List UInt8 → Int → Prop) (w : World) (p q : Nat) (h : Hd) (s6 : Value) (wx : World) : Prop :=
  s6 = .int .i64 h.m ∧ wx.heap[q]? = some (.cells #[.int .i64 h.k, .int .i64 h.n, .string (bytes h.s), .slice none 0 0] 24 (0, 0)) ∧ I wx p h.r h.x ∧ Chg [p, q] w wx

theorem InR.chg {w w' : World} {p : Nat} {b : List UInt8} {x : Int} {F : List Nat} (h : InR w p b x) (hc : Chg F w w') (hF : p ∉ F) : InR w' p b x := (hc.block p (lt_of_block h) hF).trans h
theorem InR.lt {w : World} {p : Nat} {b : List UInt8} {x : Int} (h : InR w p b x) : p < w.heap.size := lt_of_block h

theorem hd_wf (b : List UInt8) : 0 ≤ (hd b).k ∧ (hd b).k ≤ 6 ∧ -4611686018427387904 ≤ (hd b).n ∧ (hd b).n ≤ 4611686018427387903 ∧ (hd b).s.length ≤ b.length := by
  have h0 := rn_in (lo := 0) (hi := 6) b 0 (by omega) (by omega)
  have h1 := rn_le 0 6 b 0
  unfold hd
  generalize rn 0 6 b 0 = q at h0 h1 ⊢
  unfold hdOf
  split
  · have := rn_in (lo := -4611686018427387904) (hi := 4611686018427387903) q.2.1 q.2.2 (by omega) (by omega)
    simp only [List.length_nil]; omega
  · split
    · have := rs_len 4096 q.2.1 q.2.2
      simp only; omega
    · split
      · have := rn_in (lo := 0) (hi := 255) q.2.1 q.2.2 (by omega) (by omega)
        simp only [List.length_nil]; omega
      · split
        · simp only [List.length_nil]; omega
        · split
          · have := rn_count (lo := 1) (hi := 1099511627776) q.2.1 q.2.2 (by omega) (by omega)
            simp only [List.length_nil]; omega
          · simp only [List.length_nil]; omega
def RdLoop (I : World → Nat → List UInt8 → Int → Prop) (f : Nat) (W : World) (p q : Nat) (k n : Int) (s : List UInt8) (m : Nat) (r : List UInt8) (x : Int) (gk : Nat) (s7 : Value) (wr : World) : Prop :=
  ∃ (j : Nat) (l : List VT) (v : Value) (b' : List UInt8) (y : Int), s7 = .int .i64 j ∧ l.length = j ∧ j + gk = m ∧ b'.length ≤ 1000000 ∧ wr.heap[q]? = some (.cells #[.int .i64 k, .int .i64 n, .string (bytes s), v] 24 (0, 0)) ∧ KRow wr W.heap.size v l ∧ I wr p b' y ∧
    rvs (rv f) m r x = (l ++ (rvs (rv f) gk b' y).1, (rvs (rv f) gk b' y).2) ∧ Chg [p, q] W wr
theorem hdr4_cells {w : World} {q : Nat} {a b c d : Value} {t : TypeId} (h : w.heap[q]? = some (.cells #[a, b, c, d] t (0, 0))) : w.cell? ⟨q, 0, none⟩ = some a ∧ w.cell? ⟨q, 1, none⟩ = some b ∧ w.cell? ⟨q, 2, none⟩ = some c ∧ w.cell? ⟨q, 3, none⟩ = some d ∧ ∀ j, w.frozen? ⟨q, j, none⟩ = false :=
  ⟨by simp [World.cell?, h], by simp [World.cell?, h], by simp [World.cell?, h], by simp [World.cell?, h], fun j => by simp [World.frozen?, h]⟩
/-- The result's cells, written. -/
theorem four_ret {w : World} {H : Nat} {a b c d y0 y1 y2 y3 : Value} {t : TypeId} (h : w.heap[H]? = some (.cells #[a, b, c, d] t (0, 0))) :
    ((((w.setCell ⟨H, 0, none⟩ y0).setCell ⟨H, 1, none⟩ y1).setCell ⟨H, 2, none⟩ y2).setCell ⟨H, 3, none⟩ y3).heap[H]? = some (.cells #[y0, y1, y2, y3] t (0, 0)) ∧
    Chg [H] w ((((w.setCell ⟨H, 0, none⟩ y0).setCell ⟨H, 1, none⟩ y1).setCell ⟨H, 2, none⟩ y2).setCell ⟨H, 3, none⟩ y3) := by
  have h2 := hdr4_set (o := 0) (u := y0) h
  have h3 := hdr4_set (o := 1) (u := y1) (a := y0) (b := b) (c := c) (d := d) (h2.trans rfl)
  have h4 := hdr4_set (o := 2) (u := y2) (a := y0) (b := y1) (c := c) (d := d) (h3.trans rfl)
  have h5 := hdr4_set (o := 3) (u := y3) (a := y0) (b := y1) (c := y2) (d := d) (h4.trans rfl)
  refine ⟨h5.trans rfl, ?_⟩
  exact ((((Chg.refl [H] w).setCell (p := ⟨H, 0, none⟩) (.inl (by simp)) _).setCell (p := ⟨H, 1, none⟩) (.inl (by simp)) _).setCell (p := ⟨H, 2, none⟩) (.inl (by simp)) _).setCell (p := ⟨H, 3, none⟩) (.inl (by simp)) _

theorem app_block {w5 w6 : World} {o : Obj} {v : Value} {q : Nat} (hg : (w5.alloc o).grownBy w6 v.ownBlock) (hq : q < w5.heap.size) (hv : v.ownBlock ≠ some q) : w6.heap[q]? = w5.heap[q]? :=
  (((Chg.refl v.ownBlock.toList w5).alloc o).grown hg (fun k hk => .inl (by simp [hk]))).block q hq (by simpa using hv)
theorem cell3_later {w : World} {q : Nat} {a b c d : Value} {t : TypeId} (h : w.heap[q]? = some (.cells #[a, b, c, d] t (0, 0))) : ∀ o, (w.alloc o).cell? ⟨q, 3, none⟩ = some d := fun o => by
  have := (heap_alloc_old w o (lt_of_block h)).trans h
  simp [World.cell?, this]
theorem rd_round {W wr w5 w6 : World} {p q g cap ao5c : Nat} {ao5 : Option Addr} {v : Value} {l : List VT} {ps : List (Option Addr × Nat)} {t : VT} {o : Obj} (hp : p < W.heap.size) (hq : q < W.heap.size) (hcr : Chg [p, q] W wr) (hkr : KRow wr W.heap.size v l) (hc5 : Chg [p] wr w5) (hv5 : ValIs w5 (fun b => wr.heap.size ≤ b ∧ b < w5.heap.size) t (vval t ao5 ao5c))
    (k1 : ps.length = l.length) (k3 : ∀ k, v.ownBlock = some k → W.heap.size ≤ k)
    (k4 : ∀ (i : Nat) (t : VT) (p : Option Addr × Nat), l[i]? = some t → ps[i]? = some p → ValIs w5 (fun b => W.heap.size ≤ b ∧ b < w5.heap.size ∧ v.ownBlock ≠ some b) t (vval t p.1 p.2))
    (k2 : RowZ w5 24 4 v l.length (kcells l ps))
    (hr : RowZ w6 24 4 (.slice (some ⟨g, 0, none⟩) (l.length + 1) cap) (l.length + 1) (kcells l ps ++ kcell t (ao5, ao5c))) (hg : (w5.alloc o).grownBy w6 v.ownBlock) (hl : v.ownBlock = some g ∨ g = (w5.alloc o).heap.size) (x : Value) :
    KRow (w6.setCell ⟨q, 3, none⟩ x) W.heap.size (.slice (some ⟨g, 0, none⟩) (l.length + 1) cap) (l ++ [t]) ∧ Chg [p, q] W (w6.setCell ⟨q, 3, none⟩ x) ∧ Chg (v.ownBlock.toList ++ [q]) w5 (w6.setCell ⟨q, 3, none⟩ x) := by
  have hsz := hc5.size
  have hszr := hcr.size
  have hlt : ∀ k, v.ownBlock = some k → k < wr.heap.size := fun k hk' => by obtain ⟨_, _, h2, _, _⟩ := hkr; exact h2.lt hk'
  have hA := KRow.app (w := w5) (base := W.heap.size) (t := t) (p := (ao5, ao5c)) k1 (fun k hk' => ⟨k3 k hk', k2.lt hk'⟩) (by omega) k4 (hv5.mono fun b hb => ⟨by omega, hb.2, fun e => by have := hlt b e; omega⟩) hr hg hl
  have hB : Chg v.ownBlock.toList w5 w6 := ((Chg.refl _ w5).alloc o).grown hg (fun k hk => .inl (by simp [hk]))
  have hC : Chg (v.ownBlock.toList ++ [q]) w5 (w6.setCell ⟨q, 3, none⟩ x) := (hB.mono (by intro k hk; simp at hk ⊢; exact .inl hk)).trans (chg1_set w6 q 3 x) (fun k hk => .inl (by simp at hk ⊢; exact .inr hk))
  refine ⟨hA.chg (chg1_set w6 q 3 x) (fun k hk => by simp at hk; omega), ?_, hC⟩
  refine (hcr.trans hc5 (fun k hk => .inl (by simp at hk ⊢; exact .inl hk))).trans hC (fun k hk => ?_)
  simp at hk
  rcases hk with hk | hk
  · exact .inr (k3 k hk)
  · exact .inl (by simp [hk])
theorem wf_in {k : Int} (h1 : -9223372036854775808 ≤ k) (h2 : k ≤ 9223372036854775807) : (Lit.int .i64 k).wf = true := by
  have e1 : IntKind.i64.min = -9223372036854775808 := by decide
  have e2 : IntKind.i64.max = 9223372036854775807 := by decide
  simp only [Lit.wf, Bool.and_eq_true, decide_eq_true_eq]
  omega
theorem rd_end {I : World → Nat → List UInt8 → Int → Prop} {w W wr wz : World} {p q H : Nat} {k n y : Int} {s b' : List UInt8} {v : Value} {l : List VT} (hs : w.heap.size ≤ W.heap.size) (hH : w.heap.size ≤ H) (hHW : H < W.heap.size) (hq : w.heap.size ≤ q) (hW : Chg [p] w W) (hcr : Chg [p, q] W wr) (hc : Chg [H] wr wz) (hkr : KRow wr W.heap.size v l) (hi : I wz p b' y)
    (hk : 0 ≤ k ∧ k ≤ 6 ∧ -4611686018427387904 ≤ n ∧ n ≤ 4611686018427387903 ∧ s.length ≤ 1000000) : RdEnd I w p (.node k n (bytes s) l, b', y) (.returned (.agg #[.int .i64 k, .int .i64 n, .string (bytes s), v])) wz := by
  obtain ⟨ao, cap, rfl, h1, h2, h3, h4⟩ := hkr.kids
  have hsr := hcr.size
  have hsz := hc.size
  refine ⟨_, rfl, ?_, hi, ?_⟩
  · have hv : ValIs wr (fun b => W.heap.size ≤ b ∧ b < wr.heap.size) (.node k n (bytes s) l) (.agg #[.int .i64 k, .int .i64 n, .string (bytes s), .slice ao l.length cap]) := by
      unfold ValIs
      exact ⟨ao, cap, rfl, h1, h2, by unfold maxLen; rw [bytes_size]; omega, wf_in (by omega) (by omega), wf_in (by omega) (by omega), h3, h4⟩
    exact (hv.chg hc (fun b hb => ⟨hb.2, by simp; omega⟩)).mono fun b hb => ⟨by omega, by omega⟩
  · exact (hW.trans hcr (fun k hk => by simp at hk ⊢; omega)).trans hc (fun k hk => by simp at hk ⊢; omega)
abbrev Z4 : Obj := .cells #[.int .i64 0, .int .i64 0, .string ⟨#[]⟩, .slice none 0 0] 24 (0, 0)

set_option maxRecDepth 100000 in
set_option maxHeartbeats 1600000 in
theorem read_walk : ∀ (f : Nat) (p : Nat) (b : List UInt8) (d : Int) (w : World), InR w p b 0 → b.length ≤ 1000000 → (f : Int) + d = 201 → 0 ≤ d → Calls Tryd.prog 42 #[.pointer (some ⟨p, 0, none⟩), .int .i64 d] w (RdEnd InR w p (rv f b)) := by
  intro f
  induction f with
  | zero => 
    intro p b d w h hl hd hd0
    obtain rfl : d = 201 := by omega
    have H := Lib.hid h
    have hp := h.lt
    obtain ⟨c0, c1, f0⟩ := in_cells h
    clear h
    go_enter Tryd.func42, Tryd.ntmps42
    go_wp2
    obtain ⟨wz, hwz⟩ : ∃ wz, wz = ((w.setCell ⟨p, 1, none⟩ (.int .i64 2)).alloc Z4).alloc Z4 := ⟨_, rfl⟩
    have hz : wz.heap[w.heap.size]? = some Z4 := by
      rw [hwz]
      have := heap_alloc_new (w.setCell ⟨p, 1, none⟩ (.int .i64 2)) Z4
      rw [show (w.setCell ⟨p, 1, none⟩ (.int .i64 2)).heap.size = w.heap.size by simp] at this
      exact (heap_alloc_old _ _ (by simp)).trans this
    have hin : InR wz p b 2 := by
      rw [hwz]
      exact (H.out.err 2).chg (((Chg.refl [] _).alloc Z4).alloc Z4) (by simp)
    have hc : Chg [p] w wz := by
      rw [hwz]
      exact ((chg_set1 (Chg.refl [p] w) _).alloc Z4).alloc Z4
    have hs : w.heap.size < wz.heap.size := by rw [hwz]; simp; omega
    rw [← hwz]
    clear hwz
    obtain ⟨y0, y1, y2, y3, _⟩ := hdr4_cells hz
    refine bodyPost_ret (v := .agg #[.int .i64 0, .int .i64 0, .string ⟨#[]⟩, .slice none 0 0]) (by simp [results, Tryd.results42, go_sem, y0, y1, y2, y3]) rfl ?_
    exact ⟨_, rfl, leaf_is _ _ 0 0 ⟨#[]⟩ (by decide) (by decide) (sz_max _ (by decide)), hin, hc⟩
  | succ f ih =>
    intro p b d w h hl hdp hd0
    have hd2 : d ≤ 200 := by omega
    have hp := h.lt
    have HNf := refNum_fn p b 0 0 6 ((w.alloc Z4).alloc Z4) (h.chg (((Chg.refl [] w).alloc Z4).alloc Z4) (by simp)) hl
    have hZ1 : ((w.alloc Z4).alloc Z4).heap[w.heap.size]? = some Z4 := (heap_alloc_old _ _ (by simp)).trans (heap_alloc_new _ _)
    have hZ2 : ((w.alloc Z4).alloc Z4).heap[w.heap.size + 1]? = some Z4 := by
      have := heap_alloc_new (w.alloc Z4) Z4
      simpa using this
    obtain ⟨k, b1, x1, hk⟩ : ∃ k b1 x1, rn 0 6 b 0 = (k, b1, x1) := ⟨_, _, _, rfl⟩
    have hkin := rn_in (lo := 0) (hi := 6) b 0 (by omega) (by omega)
    have hb1 := rn_le 0 6 b 0
    have hhd : hd b = hdOf b1 k x1 := by unfold hd; rw [hk]
    rw [hk] at HNf hkin hb1
    obtain ⟨hk0, hk6⟩ := hkin
    simp only at hk0 hk6 hb1
    have HK := Lib.hid HNf
    have Z1 := Lib.hid hZ1
    have Z2 := Lib.hid hZ2
    have HHD := Lib.hid hhd
    clear h hk HNf hZ1 hZ2 hhd
    go_enter Tryd.func42, Tryd.ntmps42
    go_upto_block 0 with (first | (go_at_call 65; refine HK.out.mono ?_; rintro e w5 ⟨rfl, hin, hc⟩; replace hin : InR w5 p b1 x1 := hin; have HIN := Lib.hid hin; have HC := Lib.hid hc; have z5 := (hc.block (w.heap.size + 1) (by simp) (by simp; omega)).trans Z2.out; obtain ⟨y0, y1, y2, y3, y4⟩ := hdr4_cells z5; have Z5 := Lib.hid z5; clear hin hc z5))
    obtain ⟨w6, hw6⟩ : ∃ w6, w6 = w5.setCell ⟨w.heap.size + 1, 0, none⟩ (.int .i64 k) := ⟨_, rfl⟩
    have z6 : w6.heap[w.heap.size + 1]? = some (.cells #[.int .i64 k, .int .i64 0, .string ⟨#[]⟩, .slice none 0 0] 24 (0, 0)) := by rw [hw6]; exact (hdr4_set Z5.out).trans rfl
    have hi6 : InR w6 p b1 x1 := by rw [hw6]; exact HIN.out.chg (chg1_set w5 (w.heap.size + 1) 0 _) (by simp; omega)
    have hc6 : Chg [p, w.heap.size + 1] ((w.alloc Z4).alloc Z4) w6 := by
      rw [hw6]
      exact (HC.out.mono (by simp)).trans (chg1_set w5 (w.heap.size + 1) 0 _) (fun j hj => .inl (by simp at hj ⊢; omega))
    rw [← hw6]
    have Z6 := Lib.hid z6
    have HI6 := Lib.hid hi6
    have HC6 := Lib.hid hc6
    clear hw6 y0 y1 y2 y3 y4 Z5 HC HIN HK Z1 Z2
    obtain ⟨b60, b61, b62, b63, b64⟩ := hdr4_cells z6
    clear z6 hi6 hc6
    go_cut [6] (fun s6 wx => RdHead InR ((w.alloc Z4).alloc Z4) p (w.heap.size + 1) (hd b) s6 wx)
    case first =>
      have hc : k = 0 ∨ k = 1 ∨ k = 2 ∨ k = 3 ∨ k = 4 ∨ k = 5 ∨ k = 6 := by omega
      clear hk0 hk6
      rcases hc with rfl | rfl | rfl | rfl | rfl | rfl | rfl
      · obtain ⟨n, r, y, hr⟩ : ∃ n r y, rn (-4611686018427387904) 4611686018427387903 b1 x1 = (n, r, y) := ⟨_, _, _, rfl⟩
        have he : hd b = ⟨0, n, [], 0, r, y⟩ := by rw [HHD.out]; unfold hdOf; rw [if_pos rfl, hr]
        have hA := refNum_fn p b1 x1 (-4611686018427387904) 4611686018427387903 w6 HI6.out (by omega)
        rw [hr] at hA
        have HA := Lib.hid hA
        have HE := Lib.hid he
        clear hr hA he
        go_wp2_with (go_at_call 65; refine HA.out.mono ?_; rintro e w7 ⟨rfl, hin, hc⟩; replace hin : InR w7 p r y := hin; have IN7 := Lib.hid hin; have C7 := Lib.hid hc; have z7 := (hc.block (w.heap.size + 1) (lt_of_block Z6.out) (by simp; omega)).trans Z6.out; obtain ⟨a70, a71, a72, a73, a74⟩ := hdr4_cells z7; have Z7 := Lib.hid z7; clear hin hc z7)
        go_meet
        case rel =>
          rw [HE.out]
          refine ⟨rfl, ?_, ?_, ?_⟩
          · exact (hdr4_set Z7.out).trans rfl
          · exact IN7.out.chg (chg1_set w7 (w.heap.size + 1) 1 _) (by simp; omega)
          · exact (HC6.out.trans C7.out (fun j hj => .inl (by simp at hj ⊢; omega))).trans (chg1_set w7 (w.heap.size + 1) 1 _) (fun j hj => .inl (by simp at hj ⊢; omega))
      · obtain ⟨s, r, y, hr⟩ : ∃ s r y, rs 4096 b1 x1 = (s, r, y) := ⟨_, _, _, rfl⟩
        have he : hd b = ⟨1, 0, s, 0, r, y⟩ := by rw [HHD.out]; unfold hdOf; rw [if_neg (by omega), if_pos (by omega), hr]
        have hA := refStr_fn p b1 x1 4096 w6 HI6.out (by omega) (by omega)
        rw [hr] at hA
        have HA := Lib.hid hA
        have HE := Lib.hid he
        clear hr hA he
        go_wp2_with (go_at_call 66; refine HA.out.mono ?_; rintro e w7 ⟨rfl, hin, hc⟩; replace hin : InR w7 p r y := hin; have IN7 := Lib.hid hin; have C7 := Lib.hid hc; have z7 := (hc.block (w.heap.size + 1) (lt_of_block Z6.out) (by simp; omega)).trans Z6.out; obtain ⟨a70, a71, a72, a73, a74⟩ := hdr4_cells z7; have Z7 := Lib.hid z7; clear hin hc z7)
        go_meet
        case rel =>
          rw [HE.out]
          refine ⟨rfl, ?_, ?_, ?_⟩
          · exact (hdr4_set Z7.out).trans rfl
          · exact IN7.out.chg (chg1_set w7 (w.heap.size + 1) 2 _) (by simp; omega)
          · exact (HC6.out.trans C7.out (fun j hj => .inl (by simp at hj ⊢; omega))).trans (chg1_set w7 (w.heap.size + 1) 2 _) (fun j hj => .inl (by simp at hj ⊢; omega))
      · obtain ⟨s, r, y, hr⟩ : ∃ s r y, rs 4096 b1 x1 = (s, r, y) := ⟨_, _, _, rfl⟩
        have he : hd b = ⟨2, 0, s, 0, r, y⟩ := by rw [HHD.out]; unfold hdOf; rw [if_neg (by omega), if_pos (by omega), hr]
        have hA := refStr_fn p b1 x1 4096 w6 HI6.out (by omega) (by omega)
        rw [hr] at hA
        have HA := Lib.hid hA
        have HE := Lib.hid he
        clear hr hA he
        go_wp2_with (go_at_call 66; refine HA.out.mono ?_; rintro e w7 ⟨rfl, hin, hc⟩; replace hin : InR w7 p r y := hin; have IN7 := Lib.hid hin; have C7 := Lib.hid hc; have z7 := (hc.block (w.heap.size + 1) (lt_of_block Z6.out) (by simp; omega)).trans Z6.out; obtain ⟨a70, a71, a72, a73, a74⟩ := hdr4_cells z7; have Z7 := Lib.hid z7; clear hin hc z7)
        go_meet
        case rel =>
          rw [HE.out]
          refine ⟨rfl, ?_, ?_, ?_⟩
          · exact (hdr4_set Z7.out).trans rfl
          · exact IN7.out.chg (chg1_set w7 (w.heap.size + 1) 2 _) (by simp; omega)
          · exact (HC6.out.trans C7.out (fun j hj => .inl (by simp at hj ⊢; omega))).trans (chg1_set w7 (w.heap.size + 1) 2 _) (fun j hj => .inl (by simp at hj ⊢; omega))
      · obtain ⟨n, r, y, hr⟩ : ∃ n r y, rn 0 255 b1 x1 = (n, r, y) := ⟨_, _, _, rfl⟩
        obtain ⟨m, r2, y2, hr2⟩ : ∃ m r2 y2, rn 0 8 r y = (m, r2, y2) := ⟨_, _, _, rfl⟩
        have he : hd b = ⟨3, n, [], m, r2, y2⟩ := by rw [HHD.out]; unfold hdOf; rw [if_neg (by omega), if_neg (by omega), if_pos rfl, hr]; simp only; rw [hr2]
        have hrl := rn_le 0 255 b1 x1
        rw [hr] at hrl
        simp only at hrl
        have hA := refNum_fn p b1 x1 0 255 w6 HI6.out (by omega)
        rw [hr] at hA
        have hA2 : ∀ W, InR W p r y → Calls Tryd.prog 65 #[.pointer (some ⟨p, 0, none⟩), .int .i64 0, .int .i64 8] W (NumFn InR W p (m, r2, y2)) := fun W hW => by
          have := refNum_fn p r y 0 8 W hW (by omega)
          rwa [hr2] at this
        have HA := Lib.hid hA
        have HA2 := Lib.hid hA2
        have HE := Lib.hid he
        clear hr hA hA2 he hr2
        go_wp2_with (first
          | (go_at_call 65; refine HA.out.mono ?_; rintro e w7 ⟨rfl, hin, hc⟩; replace hin : InR w7 p r y := hin; have IN7 := Lib.hid hin; have C7 := Lib.hid hc; have z7 := (hc.block (w.heap.size + 1) (lt_of_block Z6.out) (by simp; omega)).trans Z6.out; obtain ⟨a70, a71, a72, a73, a74⟩ := hdr4_cells z7; have Z7 := Lib.hid z7; clear hin hc z7; clear HA; have Z8 : Hid ((w7.setCell ⟨w.heap.size + 1, 1, none⟩ (.int .i64 n)).heap[w.heap.size + 1]? = some (.cells #[.int .i64 3, .int .i64 n, .string ⟨#[]⟩, .slice none 0 0] 24 (0, 0))) := (hdr4_set Z7.out).trans rfl; have hI8 : InR (w7.setCell ⟨w.heap.size + 1, 1, none⟩ (.int .i64 n)) p r y := IN7.out.chg (chg1_set w7 (w.heap.size + 1) 1 _) (by simp; omega); have I8 := Lib.hid hI8; clear hI8)
          | (go_at_call 65; refine (HA2.out _ I8.out).mono ?_; rintro e w9 ⟨rfl, hin, hc⟩; replace hin : InR w9 p r2 y2 := hin; have IN9 := Lib.hid hin; have C9 := Lib.hid hc; have z9 := (hc.block (w.heap.size + 1) (lt_of_block Z8.out) (by simp; omega)).trans Z8.out; obtain ⟨a90, a91, a92, a93, a94⟩ := hdr4_cells z9; have Z9 := Lib.hid z9; clear hin hc z9))
        go_meet
        case rel =>
          rw [HE.out]
          refine ⟨rfl, Z9.out, IN9.out, ?_⟩
          exact ((HC6.out.trans C7.out (fun j hj => .inl (by simp at hj ⊢; omega))).trans (chg1_set w7 (w.heap.size + 1) 1 _) (fun j hj => .inl (by simp at hj ⊢; omega))).trans C9.out (fun j hj => .inl (by simp at hj ⊢; omega))
      · obtain ⟨n, r, y, hr⟩ : ∃ n r y, rn (2) 8 b1 x1 = (n, r, y) := ⟨_, _, _, rfl⟩
        have he : hd b = ⟨4, 0, [], n, r, y⟩ := by rw [HHD.out]; unfold hdOf; rw [if_neg (by omega)]; rw [if_neg (by omega)]; rw [if_neg (by omega)]; rw [if_pos rfl, hr]
        have hA := refNum_fn p b1 x1 (2) 8 w6 HI6.out (by omega)
        rw [hr] at hA
        have HA := Lib.hid hA
        have HE := Lib.hid he
        clear hr hA he
        go_wp2_with (go_at_call 65; refine HA.out.mono ?_; rintro e w7 ⟨rfl, hin, hc⟩; replace hin : InR w7 p r y := hin; have IN7 := Lib.hid hin; have C7 := Lib.hid hc; have z7 := (hc.block (w.heap.size + 1) (lt_of_block Z6.out) (by simp; omega)).trans Z6.out; obtain ⟨a70, a71, a72, a73, a74⟩ := hdr4_cells z7; have Z7 := Lib.hid z7; clear hin hc z7)
        go_meet
        case rel =>
          rw [HE.out]
          refine ⟨rfl, ?_, ?_, ?_⟩
          · exact Z7.out
          · exact IN7.out
          · exact HC6.out.trans C7.out (fun j hj => .inl (by simp at hj ⊢; omega))
      · obtain ⟨n, r, y, hr⟩ : ∃ n r y, rn (1) 1099511627776 b1 x1 = (n, r, y) := ⟨_, _, _, rfl⟩
        have he : hd b = ⟨5, n, [], 0, r, y⟩ := by rw [HHD.out]; unfold hdOf; rw [if_neg (by omega)]; rw [if_neg (by omega)]; rw [if_neg (by omega)]; rw [if_neg (by omega)]; rw [if_pos rfl, hr]
        have hA := refNum_fn p b1 x1 (1) 1099511627776 w6 HI6.out (by omega)
        rw [hr] at hA
        have HA := Lib.hid hA
        have HE := Lib.hid he
        clear hr hA he
        go_wp2_with (go_at_call 65; refine HA.out.mono ?_; rintro e w7 ⟨rfl, hin, hc⟩; replace hin : InR w7 p r y := hin; have IN7 := Lib.hid hin; have C7 := Lib.hid hc; have z7 := (hc.block (w.heap.size + 1) (lt_of_block Z6.out) (by simp; omega)).trans Z6.out; obtain ⟨a70, a71, a72, a73, a74⟩ := hdr4_cells z7; have Z7 := Lib.hid z7; clear hin hc z7)
        go_meet
        case rel =>
          rw [HE.out]
          refine ⟨rfl, ?_, ?_, ?_⟩
          · exact (hdr4_set Z7.out).trans rfl
          · exact IN7.out.chg (chg1_set w7 (w.heap.size + 1) 1 _) (by simp; omega)
          · exact (HC6.out.trans C7.out (fun j hj => .inl (by simp at hj ⊢; omega))).trans (chg1_set w7 (w.heap.size + 1) 1 _) (fun j hj => .inl (by simp at hj ⊢; omega))
      · have he : hd b = ⟨6, 0, [], 0, b1, x1⟩ := by rw [HHD.out]; unfold hdOf; rw [if_neg (by omega), if_neg (by omega), if_neg (by omega), if_neg (by omega), if_neg (by omega)]
        have HE := Lib.hid he
        clear he
        go_wp2
        go_meet
        case rel =>
          rw [HE.out]
          exact ⟨rfl, Z6.out, HI6.out, HC6.out⟩
    case rest =>
      obtain ⟨rfl, zq, hix, hcx⟩ := hcut
      have hrv : rv (f + 1) b = (.node (hd b).k (hd b).n (bytes (hd b).s) (rvs (rv f) (hd b).m.toNat (hd b).r (hd b).x).1, (rvs (rv f) (hd b).m.toNat (hd b).r (hd b).x).2) := by rw [rv]
      obtain ⟨hm0, hm8⟩ := hd_m b
      have hrl := hd_le b
      have hwf := hd_wf b
      obtain ⟨h, hh⟩ : ∃ h, hd b = h := ⟨_, rfl⟩
      rw [hh] at hrv zq hix hm0 hm8 hrl hwf
      rw [hh]
      clear hh HHD
      obtain ⟨k', n', s', m', r', x'⟩ := h
      simp only at hrv zq hix hm0 hm8 hrl hwf ⊢
      obtain ⟨m, rfl⟩ : ∃ m : Nat, m' = (m : Int) := ⟨m'.toNat, by omega⟩
      rw [Int.toNat_natCast] at hrv
      have HRV := Lib.hid hrv
      have ZQ := Lib.hid zq
      have HCX := Lib.hid hcx
      have HWF := Lib.hid hwf
      have HL : Hid (RdLoop InR f ((w.alloc Z4).alloc Z4) p (w.heap.size + 1) k' n' s' m r' x' m (.int .i64 0) wc) := ⟨0, [], .slice none 0 0, r', x', rfl, rfl, by omega, by omega, zq, KRow.nil _ _, hix, by simp, hcx⟩
      clear hrv zq hix hcx hwf HI6 HC6 Z6 b60 b61 b62 b63 b64
      go_wp2
      go_loopg [7] m (fun gk s7 wr => RdLoop InR f ((w.alloc Z4).alloc Z4) p (w.heap.size + 1) k' n' s' m r' x' gk s7 wr)
      case atStart => exact HL.out
      case round =>
        clear HL ZQ HCX
        obtain ⟨j, l, v, b', y, rfl, hll, hjm, hbl, zq, hkr, hir, hrvs, hcr⟩ := hrel
        have HKR := Lib.hid hkr
        have HIR := Lib.hid hir
        have HRVS := Lib.hid hrvs
        have HCR := Lib.hid hcr
        have ZQ := Lib.hid zq
        have HLL := Lib.hid hll
        obtain ⟨a0, a1, a2, a3, a4⟩ := hdr4_cells zq
        obtain ⟨i0, i1, i2⟩ := in_cells hir
        have HM8 : Hid (m ≤ 8) := by show m ≤ 8; omega
        have HPW : Hid (p < w.heap.size) := hp
        clear hkr hir hrvs hcr zq hll
        have g0 : (0 : Int) ≤ (j : Int) := by omega
        by_cases hlt : j < m
        · have g1 : (j : Int) < (m : Int) := by omega
          by_cases hy : y = 0
          · subst hy
            have HI := Lib.hid (fun W (hW : InR W p b' 0) => ih p b' (d + 1) W hW hbl (by omega) (by omega))
            have hd3 : d + 1 ≤ 201 := by omega
            have hbl' := rv_le f b'
            obtain ⟨t, b2, y2, hrvf⟩ : ∃ t b2 y2, rv f b' = (t, b2, y2) := ⟨_, _, _, rfl⟩
            rw [hrvf] at HI hbl'
            simp only at hbl'
            have HRF := Lib.hid hrvf
            clear hrvf
            have hw1 : IntKind.i64.wrap (d + 1) = d + 1 := by rw [IntKind.wrap_i64]; omega
            go_wp2
            go_region_law (first
              | (refine step_callw (w := wr.drew) (by rfl) 42 #[.pointer (some ⟨p, 0, none⟩), .int .i64 (d + 1)] ?_ (HI.out _ HIR.out) ?_; go_simp; rintro e w5 ⟨v5, rfl, hv5, hi5, hc5⟩; replace hc5 : Chg [p] wr w5 := ((Chg.refl [p] wr).drewN 1).trans hc5 (Within.refl _ _); replace hv5 : ValIs w5 (fun b => wr.heap.size ≤ b ∧ b < w5.heap.size) t v5 := hv5; replace hi5 : InR w5 p b2 y2 := hi5; obtain ⟨ao5, cap5, rfl⟩ := hv5.form; refine ⟨_, rfl, ?_⟩; have zq5 := (hc5.block (w.heap.size + 1) (lt_of_block ZQ.out) (by have := HPW.out; simp; omega)).trans ZQ.out; obtain ⟨n0, n1, n2, n3, n4⟩ := hdr4_cells zq5; have n9 := cell3_later zq5; have ZQ5 := Lib.hid zq5; have HV5 := Lib.hid hv5; have HI5 := Lib.hid hi5; have HC5 := Lib.hid hc5; obtain ⟨ps, k1, k2, k3, k4⟩ := HKR.out.chg hc5 (fun k hk => by have := HPW.out; simp at hk ⊢; omega); have K1 := Lib.hid k1; have K2 := Lib.hid k2; have K3 := Lib.hid k3; have K4 := Lib.hid k4; clear hv5 hi5 hc5 k1 k2 k3 k4 zq5; unfold vval)
              | (refine step_appz (w := w5.alloc _) (by rfl) _ _ rfl (v := v) (n := l.length) (xs := kcells l ps) (news := kcell t (ao5, cap5)) (by rfl) (K2.out.alloc _) (ad := ⟨w5.heap.size, 0, none⟩) (c := 1) (by rfl) rfl (cell_four_new _ _ _ _ _ _) (kcell_one _ _) (by have := HLL.out; have := HM8.out; omega) ?_; intro g cap1 w6 hr6 hg6 hl6; have R6 := Lib.hid hr6; have G6 := Lib.hid hg6; have L6 := Lib.hid hl6; clear hr6 hg6 hl6; have zq6 := (app_block G6.out (lt_of_block ZQ5.out) (fun e => by have := K3.out _ e; simp at this; omega)).trans ZQ5.out; obtain ⟨m0, m1, m2, m3, m4⟩ := hdr4_cells zq6; have ZQ6 := Lib.hid zq6; clear zq6))
            all_goals go_wp2
            all_goals
              obtain ⟨z1, z2, z3⟩ := rd_round (W := (w.alloc Z4).alloc Z4) (by have := HPW.out; simp; omega) (by simp) HCR.out HKR.out HC5.out HV5.out K1.out K3.out K4.out K2.out R6.out G6.out L6.out (.slice (some ⟨g, 0, none⟩) (l.length + 1) cap1)
              go_roundg (gk - 1)
              case measure => omega
              case rel =>
                refine ⟨j + 1, l ++ [t], _, b2, y2, by go_num, by simp [HLL.out], by omega, by omega, (hdr4_set ZQ6.out).trans rfl, z1, HI5.out.chg z3 (fun hk => by simp at hk; rcases hk with hk | hk; exact absurd (K3.out _ hk) (by have := HPW.out; simp; omega); exact absurd hk (by have := HPW.out; omega)), ?_, z2⟩
                obtain ⟨g', rfl⟩ : ∃ g', gk = g' + 1 := ⟨gk - 1, by omega⟩
                rw [HRVS.out, rvs, if_pos rfl, HRF.out]
                simp
          · have hq : (y == 0) = false := by simpa using hy
            have x0 := (HCR.out.block w.heap.size (by simp; omega) (by have := HPW.out; simp; omega)).trans ((heap_alloc_old (w.alloc Z4) Z4 (by simp)).trans (heap_alloc_new w Z4))
            obtain ⟨e0, e1, e2, e3, e4⟩ := hdr4_cells x0
            have X0 := Lib.hid x0
            clear x0
            have HX : Hid (rvs (rv f) m r' x' = (l, b', y)) := by
              show _ = _
              rw [HRVS.out, rvs_past hy]
              simp
            obtain ⟨ao, cap, hvv, _⟩ := HKR.out.kids
            subst hvv
            go_wp2
            all_goals
              obtain ⟨z1, z2⟩ := four_ret (y0 := .int .i64 k') (y1 := .int .i64 n') (y2 := .string (bytes s')) (y3 := .slice ao l.length cap) X0.out
              generalize ((((wr.setCell _ _).setCell _ _).setCell _ _).setCell _ _) = wz at z1 z2 ⊢
              obtain ⟨y0, y1, y2, y3, _⟩ := hdr4_cells z1
              refine bodyPost_ret (v := .agg #[.int .i64 k', .int .i64 n', .string (bytes s'), .slice ao l.length cap]) (by simp [results, Tryd.results42, go_sem, y0, y1, y2, y3]) rfl ?_
              rw [HRV.out, HX.out]
              exact rd_end (W := (w.alloc Z4).alloc Z4) (H := w.heap.size) (q := w.heap.size + 1) (by simp; omega) (Nat.le_refl _) (by simp; omega) (by omega) (((Chg.refl [p] w).alloc Z4).alloc Z4) HCR.out z2 HKR.out (HIR.out.chg z2 (by have := HPW.out; simp; omega)) (by have := HWF.out; omega)
        · obtain ⟨rfl, rfl⟩ : gk = 0 ∧ j = m := ⟨by omega, by omega⟩
          have x0 := (HCR.out.block w.heap.size (by simp; omega) (by have := HPW.out; simp; omega)).trans ((heap_alloc_old (w.alloc Z4) Z4 (by simp)).trans (heap_alloc_new w Z4))
          obtain ⟨e0, e1, e2, e3, e4⟩ := hdr4_cells x0
          have X0 := Lib.hid x0
          clear x0
          have HX : Hid (rvs (rv f) j r' x' = (l, b', y)) := by
            show _ = _
            rw [HRVS.out, rvs]
            simp
          obtain ⟨ao, cap, hvv, _⟩ := HKR.out.kids
          subst hvv
          go_wp2
          all_goals
            obtain ⟨z1, z2⟩ := four_ret (y0 := .int .i64 k') (y1 := .int .i64 n') (y2 := .string (bytes s')) (y3 := .slice ao l.length cap) X0.out
            generalize ((((wr.setCell _ _).setCell _ _).setCell _ _).setCell _ _) = wz at z1 z2 ⊢
            obtain ⟨y0, y1, y2, y3, _⟩ := hdr4_cells z1
            refine bodyPost_ret (v := .agg #[.int .i64 k', .int .i64 n', .string (bytes s'), .slice ao l.length cap]) (by simp [results, Tryd.results42, go_sem, y0, y1, y2, y3]) rfl ?_
            rw [HRV.out, HX.out]
            exact rd_end (W := (w.alloc Z4).alloc Z4) (H := w.heap.size) (q := w.heap.size + 1) (by simp; omega) (Nat.le_refl _) (by simp; omega) (by omega) (((Chg.refl [p] w).alloc Z4).alloc Z4) HCR.out z2 HKR.out (HIR.out.chg z2 (by have := HPW.out; simp; omega)) (by have := HWF.out; omega)
end Go.Proofs.YtofmbpmmgpbdbaaDoor
