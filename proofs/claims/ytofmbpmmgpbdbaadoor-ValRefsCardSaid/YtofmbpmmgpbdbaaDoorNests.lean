/- The law of values in a value: the walk. -/
import Derived.Test.YtofmbpmmgpbdbaaDoorNestPl
import Derived.Test.YtofmbpmmgpbdbaaDoorSlim
import Derived.Deep.DeepCutAuto
namespace Go.Proofs.YtofmbpmmgpbdbaaDoor
open Go.RowKit Go.Maps Wr
set_option linter.unusedVariables false

/-- Two boxes at H and H + 1: the values a and b. -/
structure NestAt (w W : World) (H : Nat) (a b : VT) (aoa : Option Addr) (capa : Nat) (aob : Option Addr) (capb : Nat) : Prop where
  hH : H = w.heap.size
  zA : W.heap[H]? = some (.cells #[.int .i64 a.kind, .int .i64 a.num, .string a.text, .slice aoa a.kids.length capa] 24 (0, 0))
  zB : W.heap[H + 1]? = some (.cells #[.int .i64 b.kind, .int .i64 b.num, .string b.text, .slice aob b.kids.length capb] 24 (0, 0))
  vA : ValIs W (fun x => x < W.heap.size) a (vval a aoa capa)
  vB : ValIs W (fun x => x < W.heap.size) b (vval b aob capb)
  hb : Below w.heap.size w W
theorem NestAt.below {w W W' : World} {H : Nat} {a b : VT} {aoa : Option Addr} {capa : Nat} {aob : Option Addr} {capb : Nat} (h : NestAt w W H a b aoa capa aob capb) (hb : Below W.heap.size W W') : NestAt w W' H a b aoa capa aob capb :=
  ⟨h.hH, (hb.block _ (lt_of_block h.zA)).trans h.zA, (hb.block _ (lt_of_block h.zB)).trans h.zB, (h.vA.below hb (fun b hb => hb)).mono (fun x hx => Nat.lt_of_lt_of_le hx hb.size), (h.vB.below hb (fun b hb => hb)).mono (fun x hx => Nat.lt_of_lt_of_le hx hb.size), h.hb.trans (hb.mono h.hb.size)⟩
def NestHead (w : World) (ua ub : VT) (W : World) : Prop := ∃ aoa capa aob capb, NestAt w W w.heap.size ua ub aoa capa aob capb
theorem nest_head {w W0 w5 w7 : World} {ua ub : VT} {aoa aob : Option Addr} {capa capb : Nat} {A B : Array Value} (hW : W0 = (w.alloc (.cells A 24)).alloc (.cells B 24)) (hA : ∃ a b c d, A = #[a, b, c, d]) (hB : ∃ a b c d, B = #[a, b, c, d])
    (h5 : Below W0.heap.size W0 w5) (v5 : ValIs w5 (fun b => W0.heap.size ≤ b ∧ b < w5.heap.size) ua (vval ua aoa capa)) (h7 : Below w5.heap.size w5 w7) (v7 : ValIs w7 (fun b => w5.heap.size ≤ b ∧ b < w7.heap.size) ub (vval ub aob capb)) :
    NestHead w ua ub ((((((((w7.setCell ⟨w.heap.size, 0, none⟩ (.int .i64 ua.kind)).setCell ⟨w.heap.size, 1, none⟩ (.int .i64 ua.num)).setCell ⟨w.heap.size, 2, none⟩ (.string ua.text)).setCell ⟨w.heap.size, 3, none⟩ (.slice aoa ua.kids.length capa)).setCell ⟨w.heap.size + 1, 0, none⟩ (.int .i64 ub.kind)).setCell ⟨w.heap.size + 1, 1, none⟩ (.int .i64 ub.num)).setCell ⟨w.heap.size + 1, 2, none⟩ (.string ub.text)).setCell ⟨w.heap.size + 1, 3, none⟩ (.slice aob ub.kids.length capb)) := by
  obtain ⟨x0, x1, x2, x3, rfl⟩ := hA
  obtain ⟨y0, y1, y2, y3, rfl⟩ := hB
  obtain ⟨z1, z2, z3, z4⟩ := two_boxes (hW ▸ h5)
  have hs0 : W0.heap.size = w.heap.size + 2 := by rw [hW]; simp
  have a7 := (h7.block w.heap.size (by omega)).trans z1
  have b7 := (h7.block (w.heap.size + 1) (by omega)).trans z2
  obtain ⟨p1, p2⟩ := four_ret (y0 := .int .i64 ua.kind) (y1 := .int .i64 ua.num) (y2 := .string ua.text) (y3 := .slice aoa ua.kids.length capa) a7
  generalize ((((w7.setCell _ _).setCell _ _).setCell _ _).setCell _ _) = wx at p1 p2 ⊢
  have bx := (p2.block (w.heap.size + 1) (lt_of_block b7) (by simp)).trans b7
  obtain ⟨q1, q2⟩ := four_ret (y0 := .int .i64 ub.kind) (y1 := .int .i64 ub.num) (y2 := .string ub.text) (y3 := .slice aob ub.kids.length capb) bx
  generalize ((((wx.setCell _ _).setCell _ _).setCell _ _).setCell _ _) = wz at q1 q2 ⊢
  have hc : Chg [w.heap.size, w.heap.size + 1] w7 wz := (p2.mono (by simp)).trans (q2.mono (F' := [w.heap.size, w.heap.size + 1]) (by simp)) (Within.refl _ _)
  have hsz := hc.size
  refine ⟨aoa, capa, aob, capb, rfl, (q2.block w.heap.size (lt_of_block p1) (by simp)).trans p1, q1, ?_, ?_, ?_⟩
  · exact ((v5.below h7 (fun b hb => hb.2)).chg hc (fun b hb => ⟨Nat.lt_of_lt_of_le hb.2 h7.size, by simp; omega⟩)).mono (fun x hx => by have := h7.size; omega)
  · exact (v7.chg hc (fun b hb => ⟨hb.2, by have := h5.size; simp; omega⟩)).mono (fun x hx => by omega)
  · exact (z3.trans (h7.mono z3.size)).trans (hc.below (Nat.le_trans z3.size h7.size) (by simp))

/-- The tuple of both, at the block behind the heap; its box behind that. -/
def tupW (w : World) (ua ub : VT) (aoa : Option Addr) (capa : Nat) (aob : Option Addr) (capb : Nat) : World :=
  (w.alloc (.cells #[.int .i64 ua.kind, .int .i64 ua.num, .string ua.text, .slice aoa ua.kids.length capa, .int .i64 ub.kind, .int .i64 ub.num, .string ub.text, .slice aob ub.kids.length capb] 24 (0, 0))).alloc (.cells #[.int .i64 4, .int .i64 0, .string ⟨#[]⟩, .slice (some ⟨w.heap.size, 0, none⟩) 2 2] 24 (0, 0))
structure NestFull (w W : World) (ua ub : VT) (aoa : Option Addr) (capa : Nat) (aob : Option Addr) (capb : Nat) (T : Nat) (vx vy vz : Value) : Prop where
  at' : NestAt w W w.heap.size ua ub aoa capa aob capb
  z8 : W.heap[T]? = some (.cells #[.int .i64 ua.kind, .int .i64 ua.num, .string ua.text, .slice aoa ua.kids.length capa, .int .i64 ub.kind, .int .i64 ub.num, .string ub.text, .slice aob ub.kids.length capb] 24 (0, 0))
  zT : W.heap[T + 1]? = some (.cells #[.int .i64 4, .int .i64 0, .string ⟨#[]⟩, .slice (some ⟨T, 0, none⟩) 2 2] 24 (0, 0))
  vT : ValIs W (fun x => x < W.heap.size) (tup ua ub) (.agg #[.int .i64 4, .int .i64 0, .string ⟨#[]⟩, .slice (some ⟨T, 0, none⟩) 2 2])
  rx : BytesIn W vx (encBytes ua)
  ry : BytesIn W vy (encBytes ub)
  rz : BytesIn W vz (encBytes (tup ua ub))
section
variable {w W W' : World} {ua ub : VT} {aoa : Option Addr} {capa : Nat} {aob : Option Addr} {capb T : Nat} {vx vy vz : Value}
theorem NestFull.below (h : NestFull w W ua ub aoa capa aob capb T vx vy vz) (hb : Below W.heap.size W W') : NestFull w W' ua ub aoa capa aob capb T vx vy vz :=
  ⟨h.at'.below hb, (hb.block _ (lt_of_block h.z8)).trans h.z8, (hb.block _ (lt_of_block h.zT)).trans h.zT, (h.vT.below hb (fun b hb => hb)).mono (fun x hx => Nat.lt_of_lt_of_le hx hb.size), h.rx.below hb, h.ry.below hb, h.rz.below hb⟩
theorem tup_below (w : World) : Below w.heap.size w (tupW w ua ub aoa capa aob capb) := ((Below.refl _ _).alloc (Nat.le_refl _) _).trans ((Below.refl _ _).alloc (by simp) _)
theorem tup_8 (w : World) : (tupW w ua ub aoa capa aob capb).heap[w.heap.size]? = some (.cells #[.int .i64 ua.kind, .int .i64 ua.num, .string ua.text, .slice aoa ua.kids.length capa, .int .i64 ub.kind, .int .i64 ub.num, .string ub.text, .slice aob ub.kids.length capb] 24 (0, 0)) := (heap_alloc_old _ _ (by simp)).trans (heap_alloc_new _ _)
theorem tup_T (w : World) : (tupW w ua ub aoa capa aob capb).heap[w.heap.size + 1]? = some (.cells #[.int .i64 4, .int .i64 0, .string ⟨#[]⟩, .slice (some ⟨w.heap.size, 0, none⟩) 2 2] 24 (0, 0)) := by
  have := heap_alloc_new (w.alloc (.cells #[.int .i64 ua.kind, .int .i64 ua.num, .string ua.text, .slice aoa ua.kids.length capa, .int .i64 ub.kind, .int .i64 ub.num, .string ub.text, .slice aob ub.kids.length capb] 24 (0, 0))) (.cells #[.int .i64 4, .int .i64 0, .string ⟨#[]⟩, .slice (some ⟨w.heap.size, 0, none⟩) 2 2] 24 (0, 0))
  simpa [tupW] using this
theorem nest_tup (h : NestAt w W w.heap.size ua ub aoa capa aob capb) : ValIs (tupW W ua ub aoa capa aob capb) (fun x => x < (tupW W ua ub aoa capa aob capb).heap.size) (tup ua ub) (.agg #[.int .i64 4, .int .i64 0, .string ⟨#[]⟩, .slice (some ⟨W.heap.size, 0, none⟩) 2 2]) := by
  have h8 := tup_8 (ua := ua) (ub := ub) (aoa := aoa) (capa := capa) (aob := aob) (capb := capb) W
  have hA := (h.below (tup_below W (ua := ua) (ub := ub) (aoa := aoa) (capa := capa) (aob := aob) (capb := capb))).vA
  have hB := (h.below (tup_below W (ua := ua) (ub := ub) (aoa := aoa) (capa := capa) (aob := aob) (capb := capb))).vB
  have hl := lt_of_block h8
  generalize tupW W ua ub aoa capa aob capb = X at h8 hA hB hl ⊢
  unfold tup ValIs
  refine ⟨_, _, rfl, Nat.le_refl _, by unfold maxLen; omega, sz_max _ (by decide), by decide, by decide, (fun h => by cases h), ?_⟩
  unfold KidsAt KidsAt KidsAt
  exact ⟨⟨W.heap.size, 0, _, _, _, _, rfl, hl, by simp [World.cell?, h8], by simp [World.cell?, h8], by simp [World.cell?, h8], by simp [World.cell?, h8], hA⟩, ⟨W.heap.size, 0, _, _, _, _, rfl, hl, by simp [World.cell?, h8], by simp [World.cell?, h8], by simp [World.cell?, h8], by simp [World.cell?, h8], hB⟩, trivial⟩
theorem nest_full {W10 : World} (h : NestAt w W w.heap.size ua ub aoa capa aob capb) (hx : BytesIn W vx (encBytes ua)) (hy : BytesIn W vy (encBytes ub)) (hb : Below (tupW W ua ub aoa capa aob capb).heap.size (tupW W ua ub aoa capa aob capb) W10) (hz : BytesIn W10 vz (encBytes (tup ua ub))) :
    NestFull w W10 ua ub aoa capa aob capb W.heap.size vx vy vz := by
  have hT := tup_below W (ua := ua) (ub := ub) (aoa := aoa) (capa := capa) (aob := aob) (capb := capb)
  exact ⟨(h.below hT).below hb, (hb.block _ (lt_of_block (tup_8 W))).trans (tup_8 W), (hb.block _ (lt_of_block (tup_T W))).trans (tup_T W), ((nest_tup h).below hb (fun b hb => hb)).mono (fun x hx => Nat.lt_of_lt_of_le hx hb.size), (hx.below hT).below hb, (hy.below hT).below hb, hz⟩
end

theorem tup_sz {a b : VT} (ha : a.sz ≤ 1300) (hb : b.sz ≤ 1300) : (tup a b).sz ≤ 100000 := by
  unfold tup
  rw [VT.sz, VT.szs, VT.szs, VT.szs]
  omega
theorem IRow.cell {w : World} {N n cap : Nat} {ao : Option Addr} {l : List Int} (h : IRow w N (.slice ao n cap) l) {i : Nat} (hi : i < l.length) : ∃ g, ao = some ⟨g, 0, none⟩ ∧ w.cell? ⟨g, i, none⟩ = some (.int .i64 (l.getD i 0)) := by
  rcases h.1.shape with ⟨e, h0⟩ | ⟨g, c, e, h1, h2, hg⟩
  · have h9 : l.length = 0 := by
      have := congrArg List.length h0
      rw [ivals_length] at this
      exact this
    omega
  · have hr := h.1
    rw [e] at hr
    cases e
    refine ⟨g, rfl, ?_⟩
    rw [hr.cellAt i (by rw [ivals_length]; exact hi)]
    simp [ivals, List.getD, hi]
def NLoop (w : World) (ua ub : VT) (aoa : Option Addr) (capa : Nat) (aob : Option Addr) (capb T : Nat) (vx vy vz : Value) (N M : Nat) (va vb : Value) (rl : List Int) (gk : Nat) (s14 : Value) (wr : World) : Prop :=
  ∃ i : Nat, s14 = .int .i64 i ∧ i + gk = rl.length ∧ NestFull w wr ua ub aoa capa aob capb T vx vy vz ∧ IRow wr N va rl ∧ IRow wr M vb rl
theorem nest_S {w W : World} {ua ub : VT} {aoa : Option Addr} {capa : Nat} {aob : Option Addr} {capb T : Nat} {vx vy vz : Value} (h : NestFull w W ua ub aoa capa aob capb T vx vy vz) (ha : encErr ua = 0) (hb : encErr ub = 0) (ht : encErr (tup ua ub) = 0) :
    (W.cell? ⟨T + 1, 0, none⟩ = some (.int .i64 4) ∧ W.cell? ⟨T + 1, 1, none⟩ = some (.int .i64 0) ∧ W.cell? ⟨T + 1, 2, none⟩ = some (.string ⟨#[]⟩) ∧ W.cell? ⟨T + 1, 3, none⟩ = some (.slice (some ⟨T, 0, none⟩) 2 2)) ∧ (W.cell? ⟨w.heap.size, 0, none⟩ = some (.int .i64 ua.kind) ∧ W.cell? ⟨w.heap.size, 1, none⟩ = some (.int .i64 ua.num) ∧ W.cell? ⟨w.heap.size, 2, none⟩ = some (.string ua.text) ∧ W.cell? ⟨w.heap.size, 3, none⟩ = some (.slice aoa ua.kids.length capa)) ∧ (W.cell? ⟨w.heap.size + 1, 0, none⟩ = some (.int .i64 ub.kind) ∧ W.cell? ⟨w.heap.size + 1, 1, none⟩ = some (.int .i64 ub.num) ∧ W.cell? ⟨w.heap.size + 1, 2, none⟩ = some (.string ub.text) ∧ W.cell? ⟨w.heap.size + 1, 3, none⟩ = some (.slice aob ub.kids.length capb)) ∧ (W.cell? ⟨T, 0, none⟩ = some (.int .i64 ua.kind) ∧ W.cell? ⟨T, 1, none⟩ = some (.int .i64 ua.num) ∧ W.cell? ⟨T, 2, none⟩ = some (.string ua.text) ∧ W.cell? ⟨T, 3, none⟩ = some (.slice aoa ua.kids.length capa)) ∧ (convert 29 9 vx).run Tryd.prog W = .ok (.string (bytes ua.enc)) W ∧ (convert 29 9 vy).run Tryd.prog W = .ok (.string (bytes ub.enc)) W ∧ (convert 29 9 vz).run Tryd.prog W = .ok (.string (ByteArray.mk #[8, 4] ++ bytes ua.enc ++ bytes ub.enc)) W := by
  obtain ⟨a0, a1, a2, a3, _⟩ := hdr4_cells h.zT
  obtain ⟨b0, b1, b2, b3, _⟩ := hdr4_cells h.at'.zA
  obtain ⟨c0, c1, c2, c3, _⟩ := hdr4_cells h.at'.zB
  have rx := run_bytes_str h.rx
  have ry := run_bytes_str h.ry
  have rz := run_bytes_str h.rz
  have hA := err_zero ha
  have hB := err_zero hb
  have hC := err_zero ht
  rw [(encErr_ok hA.1 hA.2).2] at rx
  rw [(encErr_ok hB.1 hB.2).2] at ry
  rw [(encErr_ok hC.1 hC.2).2, tup_enc] at rz
  have e : bytes ([8, 4] ++ ua.enc ++ ub.enc) = ByteArray.mk #[8, 4] ++ bytes ua.enc ++ bytes ub.enc := by rw [← bytes_append, ← bytes_append]; rfl
  rw [e] at rz
  have h8 := h.z8
  exact ⟨⟨a0, a1, a2, a3⟩, ⟨b0, b1, b2, b3⟩, ⟨c0, c1, c2, c3⟩, ⟨by simp [World.cell?, h8], by simp [World.cell?, h8], by simp [World.cell?, h8], by simp [World.cell?, h8]⟩, rx, ry, rz⟩
theorem tup_txt_bytes (a b : VT) : bytes ((tup a b).txt flHex) = ByteArray.mk #[40] ++ bytes (a.txt flHex) ++ ByteArray.mk #[44] ++ bytes (b.txt flHex) ++ ByteArray.mk #[41] := by
  rw [tup_txt]
  have e1 : ByteArray.mk #[40] = bytes [40] := rfl
  have e2 : ByteArray.mk #[44] = bytes [44] := rfl
  have e3 : ByteArray.mk #[41] = bytes [41] := rfl
  rw [e1, e2, e3, bytes_append, bytes_append, bytes_append, bytes_append]
  congr 1
  simp
set_option maxRecDepth 100000 in
set_option maxHeartbeats 1600000 in
theorem valNests_walk (ta tb : VT) (va vb : Value) (w : World) (P : Nat → Prop) (hT : Tab w) (hZ : Tz w) (hva : ValIs w P ta va) (hvb : ValIs w P tb vb) (hP : ∀ x, P x → x < w.heap.size) : Calls Tryd.prog 5 #[va, vb] w fun e w' => e = .returned (.bool true) ∧ Below w.heap.size w w' := by
  have HT := Lib.hid hT
  have HZ := Lib.hid hZ
  obtain ⟨ua, hua⟩ : ∃ u, topTame ta = u := ⟨_, rfl⟩
  obtain ⟨ub, hub⟩ : ∃ u, topTame tb = u := ⟨_, rfl⟩
  have HA : Hid (∀ W, Below w.heap.size w W → Calls Tryd.prog 10 #[va] W (TopEnd W ua)) := fun W hW => by
    have := top_any ta va W P (hva.below hW hP) (fun b hb => Nat.lt_of_lt_of_le (hP b hb) hW.size)
    rwa [hua] at this
  have HB : Hid (∀ W, Below w.heap.size w W → Calls Tryd.prog 10 #[vb] W (TopEnd W ub)) := fun W hW => by
    have := top_any tb vb W P (hvb.below hW hP) (fun b hb => Nat.lt_of_lt_of_le (hP b hb) hW.size)
    rwa [hub] at this
  have SA : Hid (ua.sz ≤ 1300) := by rw [← hua]; exact topTame_sz ta
  have SB : Hid (ub.sz ≤ 1300) := by rw [← hub]; exact topTame_sz tb
  obtain ⟨ka, na, sa, la⟩ := ta
  obtain ⟨kb, nb, sb, lb⟩ := tb
  unfold ValIs at hva hvb
  obtain ⟨ao, cap, rfl, _⟩ := hva
  obtain ⟨ao', cap', rfl, _⟩ := hvb
  clear hua hub hT hZ hP
  go_enter Tryd.func5, Tryd.ntmps5
  go_upto_region 1 with fail
  obtain ⟨W0, hW0⟩ : ∃ W0, W0 = ((w.alloc (.cells #[.int .i64 ka, .int .i64 na, .string sa, .slice ao la.length cap] 24 (0, 0))).alloc (.cells #[.int .i64 kb, .int .i64 nb, .string sb, .slice ao' lb.length cap'] 24 (0, 0))) := ⟨_, rfl⟩
  have hB0 : Below w.heap.size w W0 := by rw [hW0]; exact ((Below.refl _ _).alloc (Nat.le_refl _) _).trans ((Below.refl _ _).alloc (by simp) _)
  have hs0 : W0.heap.size = w.heap.size + 2 := by rw [hW0]; simp
  have z0A : W0.heap[w.heap.size]? = some (.cells #[.int .i64 ka, .int .i64 na, .string sa, .slice ao la.length cap] 24 (0, 0)) := by rw [hW0]; exact (heap_alloc_old _ _ (by simp)).trans (heap_alloc_new _ _)
  have z0B : W0.heap[w.heap.size + 1]? = some (.cells #[.int .i64 kb, .int .i64 nb, .string sb, .slice ao' lb.length cap'] 24 (0, 0)) := by
    rw [hW0]
    have := heap_alloc_new (w.alloc (.cells #[.int .i64 ka, .int .i64 na, .string sa, .slice ao la.length cap] 24 (0, 0))) (.cells #[.int .i64 kb, .int .i64 nb, .string sb, .slice ao' lb.length cap'] 24 (0, 0))
    simpa using this
  rw [← hW0]
  have HW0 := Lib.hid hW0
  have B0 := Lib.hid hB0
  have S0 := Lib.hid hs0
  obtain ⟨a0, a1, a2, a3, a4⟩ := hdr4_cells z0A
  obtain ⟨b0, b1, b2, b3, b4⟩ := hdr4_cells z0B
  have ZA := Lib.hid z0A
  have ZB := Lib.hid z0B
  clear hW0 hB0 hs0 z0A z0B
  have hne : w.heap.size ≠ w.heap.size + 1 := by omega
  go_cut [] (fun wx => NestHead w ua ub wx)
  case first =>
    go_region_law (first
      | (refine step_callw (w := W0.drew) (by rfl) 10 #[.agg #[.int .i64 ka, .int .i64 na, .string sa, .slice ao la.length cap]] ?_ (HA.out W0.drew (B0.out.drew)) ?_; go_simp; rintro e w5 ⟨ao5, cap5, rfl, hv5, hb5⟩; refine ⟨_, rfl, ?_⟩; replace hb5 : Below W0.heap.size W0 w5 := ((Below.refl _ _).drew).trans hb5; replace hv5 : ValIs w5 (fun b => W0.heap.size ≤ b ∧ b < w5.heap.size) ua (vval ua ao5 cap5) := hv5; have zb5 := (hb5.block (w.heap.size + 1) (by have := S0.out; omega)).trans ZB.out; obtain ⟨c0, c1, c2, c3, c4⟩ := hdr4_cells zb5; have za5 := (hb5.block w.heap.size (by have := S0.out; omega)).trans ZA.out; have ZA5 := Lib.hid za5; have ZB5 := Lib.hid zb5; have B5 := Lib.hid hb5; have V5 := Lib.hid hv5; clear hb5 hv5 zb5 za5)
      | (refine step_callw (w := w5) (by rfl) 10 #[.agg #[.int .i64 kb, .int .i64 nb, .string sb, .slice ao' lb.length cap']] ?_ (HB.out w5 (B0.out.trans (B5.out.mono B0.out.size))) ?_; go_simp; rintro e w7 ⟨ao7, cap7, rfl, hv7, hb7⟩; refine ⟨_, rfl, ?_⟩; have zb7 := (hb7.block (w.heap.size + 1) (lt_of_block ZB5.out)).trans ZB5.out; have za7 := (hb7.block w.heap.size (lt_of_block ZA5.out)).trans ZA5.out; obtain ⟨e0, e1, e2, e3, e4⟩ := hdr4_cells za7; obtain ⟨d0, d1, d2, d3, d4⟩ := hdr4_cells zb7; have B7 := Lib.hid hb7; have V7 := Lib.hid hv7; clear hb7 hv7 za7 zb7))
    all_goals go_wp2
    all_goals go_meet
    all_goals exact nest_head HW0.out ⟨_, _, _, _, rfl⟩ ⟨_, _, _, _, rfl⟩ B5.out V5.out B7.out V7.out
  case rest =>
    obtain ⟨aoa, capa, aob, capb, hn⟩ := hcut
    obtain ⟨c0, c1, c2, c3, _⟩ := hdr4_cells hn.zA
    obtain ⟨d0, d1, d2, d3, _⟩ := hdr4_cells hn.zB
    have HN := Lib.hid hn
    clear hn a0 a1 a2 a3 a4 b0 b1 b2 b3 b4 ZA ZB B0 S0 HW0 HA HB
    go_upto_region 6 with (first
      | (go_at_call 12; refine (encode_any (tup ua ub) _ _ _ (nest_tup HN9.out) (fun b hb => hb)).mono ?_; rintro e w10 ⟨v10, rfl, hr10, hb10⟩; have HF := Lib.hid (nest_full HN9.out (BytesIn.row R5.out) (BytesIn.row R7.out) hb10 (BytesIn.row hr10)); obtain ⟨ao10, cap10, rfl, _, _⟩ := hr10.form; clear hr10 hb10)
      | (go_at_call 12; refine (encode_any ub _ w5 _ HN5.out.vB (fun b hb => hb)).mono ?_; rintro e w7 ⟨v7, rfl, hr7, hb7⟩; have HN9 := Lib.hid (HN5.out.below hb7); have R5' := Lib.hid (R5.out.below hb7); clear R5; have R5 := R5'; clear R5'; have R7 := Lib.hid hr7; obtain ⟨ao7, cap7, rfl, _, _⟩ := hr7.form; obtain ⟨c0, c1, c2, c3, _⟩ := hdr4_cells HN9.out.zA; obtain ⟨d0, d1, d2, d3, _⟩ := hdr4_cells HN9.out.zB; clear hr7 hb7)
      | (go_at_call 12; refine (encode_any ua _ wc _ HN.out.vA (fun b hb => hb)).mono ?_; rintro e w5 ⟨v5, rfl, hr5, hb5⟩; have HN5 := Lib.hid (HN.out.below hb5); have R5 := Lib.hid hr5; obtain ⟨ao5, cap5, rfl, _, _⟩ := hr5.form; obtain ⟨c0, c1, c2, c3, _⟩ := hdr4_cells HN5.out.zA; obtain ⟨d0, d1, d2, d3, _⟩ := hdr4_cells HN5.out.zB; clear hr5 hb5))
    obtain ⟨e0, e1, e2, e3, _⟩ := hdr4_cells HF.out.at'.zA
    obtain ⟨f0, f1, f2, f3, _⟩ := hdr4_cells HF.out.at'.zB
    go_cut [12] (fun s12 wx => NestFull w wx ua ub aoa capa aob capb w7.heap.size (.slice ao5 (encBytes ua).length cap5) (.slice ao7 (encBytes ub).length cap7) (.slice ao10 (encBytes (tup ua ub)).length cap10) ∧ ∃ N, IRow wx N s12 (ua.refs ++ ub.refs))
    case first =>
      have HD := Lib.hid (HF.out.below (Below.refl _ _).drew)
      have RL1 : Hid (ua.refs.length ≤ 1300) := Nat.le_trans (VT.refs_len ua) SA.out
      have RL2 : Hid (ub.refs.length ≤ 1300) := Nat.le_trans (VT.refs_len ub) SB.out
      go_region_law (first
        | (refine step_callw (w := w10.drew) (by rfl) 16 #[.agg #[.int .i64 ua.kind, .int .i64 ua.num, .string ua.text, .slice aoa ua.kids.length capa]] ?_ (refs_walk ua.sz ua _ w10.drew _ (Nat.le_refl _) HD.out.at'.vA (fun b hb => hb) (by have := SA.out; omega)) ?_; go_simp; rintro e w11 ⟨v11, rfl, hr11, hb11⟩; obtain ⟨ao11, cap11, rfl, _⟩ := hr11.form; refine ⟨_, rfl, ?_⟩; have HD1 := Lib.hid (HD.out.below hb11); obtain ⟨g0, g1, g2, g3, _⟩ := hdr4_cells HD1.out.at'.zB; have R11 := Lib.hid hr11; have B11 := Lib.hid hb11; clear hr11 hb11)
        | (refine step_callw (w := w11) (by rfl) 16 #[.agg #[.int .i64 ub.kind, .int .i64 ub.num, .string ub.text, .slice aob ub.kids.length capb]] ?_ (refs_walk ub.sz ub _ w11 _ (Nat.le_refl _) HD1.out.at'.vB (fun b hb => hb) (by have := SB.out; omega)) ?_; go_simp; rintro e w13 ⟨v13, rfl, hr13, hb13⟩; obtain ⟨ao13, cap13, rfl, _⟩ := hr13.form; refine ⟨_, rfl, ?_⟩; have R13 := Lib.hid hr13; have R12 := Lib.hid (R11.out.below hb13); have B13 := Lib.hid (B11.out.trans (hb13.mono B11.out.size)); clear hr13 hb13)
        | (refine step_appi (w := w13) (by rfl) _ _ rfl (l := ua.refs) (m := ub.refs) (by rfl) R12.out (by rfl) R13.out (by exact B13.out.size) (by have := RL1.out; have := RL2.out; omega) ?_; intro v15 w15 hr15 ho15; have B15 := Lib.hid (B13.out.trans (ho15.below B13.out.size R12.out.2)); have R15 := Lib.hid hr15; clear hr15 ho15))
      all_goals go_wp2
      all_goals go_meet
      all_goals exact ⟨HD.out.below B15.out, _, R15.out⟩
    case rest =>
      obtain ⟨hf, N12, hr12⟩ := hcut
      rename World => w20
      obtain ⟨ao12, cap12, rfl, hl12, hm12⟩ := hr12.form
      obtain ⟨e0, e1, e2, e3, _⟩ := hdr4_cells hf.zT
      have HF2 := Lib.hid hf
      have R12 := Lib.hid hr12
      unfold maxLen at hm12
      clear hf hr12 HF R5 R7 HN9 HN5 HN
      obtain ⟨ea, hea⟩ : ∃ e, encErr ua = e := ⟨_, rfl⟩
      obtain ⟨eb, heb⟩ : ∃ e, encErr ub = e := ⟨_, rfl⟩
      obtain ⟨et, het⟩ : ∃ e, encErr (tup ua ub) = e := ⟨_, rfl⟩
      have HEA := Lib.hid hea
      have HEB := Lib.hid heb
      have HET := Lib.hid het
      rw [hea, heb, het]
      clear hea heb het
      obtain ⟨rl, hrl⟩ : ∃ rl, ua.refs ++ ub.refs = rl := ⟨_, rfl⟩
      have HRL : Hid ((tup ua ub).refs = rl) := (tup_refs ua ub).trans hrl
      have SRL : Hid (rl.length ≤ 2600) := by show rl.length ≤ 2600; rw [← hrl, List.length_append]; have := SA.out; have := SB.out; have := VT.refs_len ua; have := VT.refs_len ub; omega
      rw [hrl] at R12 hl12 ⊢
      clear hrl
      go_wp2_with (first
        | (go_at_call 16; refine (refs_walk (tup ua ub).sz (tup ua ub) _ _ _ (Nat.le_refl _) HF2.out.vT (fun b hb => hb) (tup_sz SA.out SB.out)).mono ?_; rintro e w22 ⟨v22, rfl, hr22, hb22⟩; rw [HRL.out] at hr22; obtain ⟨ao22, cap22, rfl, hl22, hm22⟩ := hr22.form; have R22 := Lib.hid hr22; have HF3 := Lib.hid (HF2.out.below hb22); have R13 := Lib.hid (R12.out.below hb22); (unfold maxLen at hm22); clear hr22 hb22)
        | (go_at_call 13; refine (vals_any _ (HT.out.below HF3.out.at'.hb)).mono ?_; rintro e w24 ⟨rfl, hb24⟩; have HF4 := Lib.hid (HF3.out.below hb24); have R14 := Lib.hid (R13.out.below hb24); have R24 := Lib.hid (R22.out.below hb24); clear hb24 HF3 R13 R22))
      have HL : Hid (NLoop w ua ub aoa capa aob capb w7.heap.size (.slice ao5 (encBytes ua).length cap5) (.slice ao7 (encBytes ub).length cap7) (.slice ao10 (encBytes (tup ua ub)).length cap10) N12 w20.heap.size (.slice ao12 rl.length cap12) (.slice ao22 rl.length cap22) rl rl.length (.int .i64 0) w24) := ⟨0, rfl, by omega, HF4.out, R14.out, R24.out⟩
      go_loopg [14] rl.length (fun gk s14 wr => NLoop w ua ub aoa capa aob capb w7.heap.size (.slice ao5 (encBytes ua).length cap5) (.slice ao7 (encBytes ub).length cap7) (.slice ao10 (encBytes (tup ua ub)).length cap10) N12 w20.heap.size (.slice ao12 rl.length cap12) (.slice ao22 rl.length cap22) rl gk s14 wr)
      case atStart => exact HL.out
      case round =>
        clear HL
        obtain ⟨i, rfl, hik, hf5, hr15, hr25⟩ := hrel
        have HF5 := Lib.hid hf5
        have R15 := Lib.hid hr15
        have R25 := Lib.hid hr25
        clear hf5
        have g0 : (0 : Int) ≤ (i : Int) := by omega
        by_cases hlt : i < rl.length
        · have g1 : (i : Int) < (rl.length : Int) := by omega
          obtain ⟨g, rfl, p0⟩ := hr15.cell hlt
          obtain ⟨g', rfl, q0⟩ := hr25.cell hlt
          clear hr15 hr25
          go_wp2
          go_quiet (fail)
          go_wp2
          go_roundg (gk - 1)
          case measure => omega
          case rel => exact ⟨i + 1, by go_num, by omega, HF5.out.below (below_drewN (Below.refl _ _) _), R15.out.below (below_drewN (Below.refl _ _) _), R25.out.below (below_drewN (Below.refl _ _) _)⟩
        · obtain rfl : i = rl.length := by omega
          obtain ⟨c0, c1, c2, c3, _⟩ := hdr4_cells HF5.out.at'.zA
          obtain ⟨d0, d1, d2, d3, _⟩ := hdr4_cells HF5.out.at'.zB
          obtain ⟨e0, e1, e2, e3, _⟩ := hdr4_cells HF5.out.zT
          clear hr15 hr25 R15 R25
          by_cases hz : ea = 0 ∧ eb = 0 ∧ et = 0
          · obtain ⟨rfl, rfl, rfl⟩ := hz
            have HTX : Hid (∀ (W : World) (t : VT) (vt : Value), Below w.heap.size w W → encErr t = 0 → ValIs W (fun x => x < W.heap.size) t vt → Calls Tryd.prog 17 #[vt] W fun e w' => e = .returned (.string (bytes (t.txt flHex))) ∧ Below W.heap.size W w') := fun W t vt hW he hv =>
              text_walk flHex true w HT.out (fun _ x W hx hW => flBits_any x hx W (HZ.out.below hW)) t.sz t vt W _ 1 (Nat.le_refl _) (err_zero he).1 (.inl rfl) hv (fun b hb => hb) hW (txt_small (by have := (err_zero he).2; omega))
            have LA : Hid ((ua.txt flHex).length ≤ 1000000) := txt_small (by have := (err_zero HEA.out).2; omega)
            have LB : Hid ((ub.txt flHex).length ≤ 1000000) := txt_small (by have := (err_zero HEB.out).2; omega)
            have EA : Hid (ua.enc.length ≤ 16384) := by have := (err_zero HEA.out).2; show _ ≤ _; omega
            have EB : Hid (ub.enc.length ≤ 16384) := by have := (err_zero HEB.out).2; show _ ≤ _; omega
            have HTB := Lib.hid (tup_txt_bytes ua ub)
            have HSM := Lib.hid (VT.same_refl ua)
            have HD := Lib.hid (HF5.out.below (Below.refl wr.heap.size wr).drew)
            go_upto_region 17 with fail
            have za : Hid ((bytes ua.enc).size ≤ 16384) := by show _ ≤ _; rw [bytes_size]; exact EA.out
            have zb : Hid ((bytes ub.enc).size ≤ 16384) := by show _ ≤ _; rw [bytes_size]; exact EB.out
            have ya : Hid ((bytes (ua.txt flHex)).size ≤ 1000000) := by show _ ≤ _; rw [bytes_size]; exact LA.out
            have yb : Hid ((bytes (ub.txt flHex)).size ≤ 1000000) := by show _ ≤ _; rw [bytes_size]; exact LB.out
            have k1 : ¬ 9223372036854775807 < 2 + (bytes ua.enc).size := by have := za.out; omega
            have k2 : ¬ 9223372036854775807 < 2 + (bytes ua.enc).size + (bytes ub.enc).size := by have := za.out; have := zb.out; omega
            have k3 : ¬ 9223372036854775807 < 1 + (bytes (ua.txt flHex)).size := by have := ya.out; omega
            have k4 : ¬ 9223372036854775807 < 1 + (bytes (ua.txt flHex)).size + 1 := by have := ya.out; omega
            have k5 : ¬ 9223372036854775807 < 1 + (bytes (ua.txt flHex)).size + 1 + (bytes (ub.txt flHex)).size := by have := ya.out; have := yb.out; omega
            have k6 : ¬ 9223372036854775807 < 1 + (bytes (ua.txt flHex)).size + 1 + (bytes (ub.txt flHex)).size + 1 := by have := ya.out; have := yb.out; omega
            clear c0 c1 c2 c3 d0 d1 d2 d3 e0 e1 e2 e3
            have HT1 : Hid (Calls Tryd.prog 17 #[.agg #[.int .i64 4, .int .i64 0, .string ⟨#[]⟩, .slice (some ⟨w7.heap.size, 0, none⟩) 2 2]] wr.drew fun e w' => e = .returned (.string (ByteArray.mk #[40] ++ bytes (ua.txt flHex) ++ ByteArray.mk #[44] ++ bytes (ub.txt flHex) ++ ByteArray.mk #[41])) ∧ NestFull w w' ua ub aoa capa aob capb w7.heap.size (.slice ao5 (encBytes ua).length cap5) (.slice ao7 (encBytes ub).length cap7) (.slice ao10 (encBytes (tup ua ub)).length cap10)) :=
              (HTX.out wr.drew (tup ua ub) _ HD.out.at'.hb HET.out HD.out.vT).mono fun e w' h => ⟨h.1.trans (by rw [HTB.out]), HD.out.below h.2⟩
            have HT2 : Hid (∀ W, NestFull w W ua ub aoa capa aob capb w7.heap.size (.slice ao5 (encBytes ua).length cap5) (.slice ao7 (encBytes ub).length cap7) (.slice ao10 (encBytes (tup ua ub)).length cap10) → Calls Tryd.prog 17 #[.agg #[.int .i64 ua.kind, .int .i64 ua.num, .string ua.text, .slice aoa ua.kids.length capa]] W fun e w' => e = .returned (.string (bytes (ua.txt flHex))) ∧ NestFull w w' ua ub aoa capa aob capb w7.heap.size (.slice ao5 (encBytes ua).length cap5) (.slice ao7 (encBytes ub).length cap7) (.slice ao10 (encBytes (tup ua ub)).length cap10)) := fun W h =>
              (HTX.out W ua _ h.at'.hb HEA.out h.at'.vA).mono fun e w' h' => ⟨h'.1, h.below h'.2⟩
            have HT3 : Hid (∀ W, NestFull w W ua ub aoa capa aob capb w7.heap.size (.slice ao5 (encBytes ua).length cap5) (.slice ao7 (encBytes ub).length cap7) (.slice ao10 (encBytes (tup ua ub)).length cap10) → Calls Tryd.prog 17 #[.agg #[.int .i64 ub.kind, .int .i64 ub.num, .string ub.text, .slice aob ub.kids.length capb]] W fun e w' => e = .returned (.string (bytes (ub.txt flHex))) ∧ NestFull w w' ua ub aoa capa aob capb w7.heap.size (.slice ao5 (encBytes ua).length cap5) (.slice ao7 (encBytes ub).length cap7) (.slice ao10 (encBytes (tup ua ub)).length cap10)) := fun W h =>
              (HTX.out W ub _ h.at'.hb HEB.out h.at'.vB).mono fun e w' h' => ⟨h'.1, h.below h'.2⟩
            have HT4 : Hid (∀ W, NestFull w W ua ub aoa capa aob capb w7.heap.size (.slice ao5 (encBytes ua).length cap5) (.slice ao7 (encBytes ub).length cap7) (.slice ao10 (encBytes (tup ua ub)).length cap10) → Calls Tryd.prog 15 #[.agg #[.int .i64 ua.kind, .int .i64 ua.num, .string ua.text, .slice aoa ua.kids.length capa], .agg #[.int .i64 ua.kind, .int .i64 ua.num, .string ua.text, .slice aoa ua.kids.length capa]] W fun e w' => e = .returned (.bool true) ∧ NestFull w w' ua ub aoa capa aob capb w7.heap.size (.slice ao5 (encBytes ua).length cap5) (.slice ao7 (encBytes ub).length cap7) (.slice ao10 (encBytes (tup ua ub)).length cap10)) := fun W h =>
              (refSame_walk ua.sz ua ua _ _ W _ (Nat.le_refl _) h.at'.vA h.at'.vA (fun b hb => hb)).mono fun e w' h' => ⟨h'.1.trans (by rw [HSM.out]), h.below h'.2⟩
            have HS0 := Lib.hid (nest_S HD.out HEA.out HEB.out HET.out)
            clear HTX HTB HSM HF5 HF2 HT HZ
            go_region_held3 (fun w' => (w'.cell? ⟨w7.heap.size + 1, 0, none⟩ = some (.int .i64 4) ∧ w'.cell? ⟨w7.heap.size + 1, 1, none⟩ = some (.int .i64 0) ∧ w'.cell? ⟨w7.heap.size + 1, 2, none⟩ = some (.string ⟨#[]⟩) ∧ w'.cell? ⟨w7.heap.size + 1, 3, none⟩ = some (.slice (some ⟨w7.heap.size, 0, none⟩) 2 2)) ∧ (w'.cell? ⟨w.heap.size, 0, none⟩ = some (.int .i64 ua.kind) ∧ w'.cell? ⟨w.heap.size, 1, none⟩ = some (.int .i64 ua.num) ∧ w'.cell? ⟨w.heap.size, 2, none⟩ = some (.string ua.text) ∧ w'.cell? ⟨w.heap.size, 3, none⟩ = some (.slice aoa ua.kids.length capa)) ∧ (w'.cell? ⟨w.heap.size + 1, 0, none⟩ = some (.int .i64 ub.kind) ∧ w'.cell? ⟨w.heap.size + 1, 1, none⟩ = some (.int .i64 ub.num) ∧ w'.cell? ⟨w.heap.size + 1, 2, none⟩ = some (.string ub.text) ∧ w'.cell? ⟨w.heap.size + 1, 3, none⟩ = some (.slice aob ub.kids.length capb)) ∧ (w'.cell? ⟨w7.heap.size, 0, none⟩ = some (.int .i64 ua.kind) ∧ w'.cell? ⟨w7.heap.size, 1, none⟩ = some (.int .i64 ua.num) ∧ w'.cell? ⟨w7.heap.size, 2, none⟩ = some (.string ua.text) ∧ w'.cell? ⟨w7.heap.size, 3, none⟩ = some (.slice aoa ua.kids.length capa)) ∧ (convert 29 9 (.slice ao5 (encBytes ua).length cap5)).run Tryd.prog w' = .ok (.string (bytes ua.enc)) w' ∧ (convert 29 9 (.slice ao7 (encBytes ub).length cap7)).run Tryd.prog w' = .ok (.string (bytes ub.enc)) w' ∧ (convert 29 9 (.slice ao10 (encBytes (tup ua ub)).length cap10)).run Tryd.prog w' = .ok (.string (ByteArray.mk #[8, 4] ++ bytes ua.enc ++ bytes ub.enc)) w') (with_reducible (first | exact nest_S HD4.out HEA.out HEB.out HET.out | exact nest_S HD3.out HEA.out HEB.out HET.out | exact nest_S HD2.out HEA.out HEB.out HET.out | exact nest_S HD1.out HEA.out HEB.out HET.out | exact HS0.out))
              (first
                | (go_at_call 17; with_reducible refine HT1.out.mono ?_; clear HT1; rintro e w31 ⟨rfl, hb31⟩; have HD1 := Lib.hid hb31; clear hb31)
                | (go_at_call 17; with_reducible refine (HT2.out w31 HD1.out).mono ?_; clear HT2; rintro e w33 ⟨rfl, hb33⟩; have HD2 := Lib.hid hb33; clear hb33)
                | (go_at_call 17; with_reducible refine (HT3.out w33 HD2.out).mono ?_; clear HT3; rintro e w35 ⟨rfl, hb35⟩; have HD3 := Lib.hid hb35; clear hb35)
                | (go_at_call 15; with_reducible refine (HT4.out w35 HD3.out).mono ?_; clear HT4; rintro e w37 ⟨rfl, hb37⟩; have HD4 := Lib.hid hb37; clear hb37))
            all_goals go_wp2
            all_goals go_ret
            all_goals exact ⟨rfl, HD4.out.at'.hb⟩
          · have hne : et ≠ 0 := by
              intro h0
              have := HET.out
              rw [h0] at this
              by_cases h1 : ea = 0
              · by_cases h2 : eb = 0
                · exact hz ⟨h1, h2, h0⟩
                · exact tup_err (.inr (by rw [HEB.out]; exact h2)) this
              · exact tup_err (.inl (by rw [HEA.out]; exact h1)) this
            have t1 : (et == 0) = false := by simpa using hne
            have t2 : (et != 0) = true := by simp [bne, t1]
            clear hz hne
            by_cases h1 : ea = 0
            · subst h1
              by_cases h2 : eb = 0
              · subst h2
                go_wp2
                go_ret
                exact ⟨rfl, HF5.out.at'.hb⟩
              · have t3 : (eb == 0) = false := by simpa using h2
                have t4 : (eb != 0) = true := by simp [bne, t3]
                go_wp2
                go_ret
                exact ⟨rfl, HF5.out.at'.hb⟩
            · have t3 : (ea == 0) = false := by simpa using h1
              have t4 : (ea != 0) = true := by simp [bne, t3]
              go_wp2
              go_ret
              exact ⟨rfl, HF5.out.at'.hb⟩
end Go.Proofs.YtofmbpmmgpbdbaaDoor
