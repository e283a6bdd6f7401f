/- Texts of the proof, in build order: StWi, StTo, StQt, StSg, StCk, StAq. -/
import Derived.Test.YtcpgbekcbaelpaaGreatDoorF35
import Derived.Test.YtcpgbekcbaelpaaGreatDoorF30
import Derived.Test.YtcpgbekcbaelpaaGreatDoorF19
import Derived.Test.YtcpgbekcbaelpaaGreatDoorF14
import Derived.Test.YtcpgbekcbaelpaaGreatDoorF27
import Derived.Test.YtcpgbekcbaelpaaGreatDoorF28
import Derived.Test.YtcpgbekcbaelpaaGreatDoorF03
import Derived.Test.YtcpgbekcbaelpaaGreatDoorF15
import Derived.Test.YtcpgbekcbaelpaaGreatDoorF34
set_option linter.unusedVariables false
set_option linter.unusedSimpArgs false
set_option linter.unusedSectionVars false
/- Layer 7: the objects behind changes, and the record that says these. -/
namespace Go.Proofs.YtcpgbekcbaelpaaGreatDoor
open Go.RowKit Go.Shelf Go.Maps Wr
set_option linter.unusedVariables false
set_option linter.unusedSimpArgs false
attribute [local go_sem] Oper.semAt_some
def chOf (c : CG) : St.Ch := (c.1, if c.2.2 = true then none else some (if encErr c.2.1 = 0 then .ok (encBytes c.2.1) else .error (encErr c.2.1)))
theorem withT_app : ∀ (l l' : List St.Ch) (o : St.Objs) (n : Int) (r : List UInt8), St.withT (l ++ l') o n r = match St.withT l o n r with
    | .ok p => St.withT l' p.1 p.2.1 p.2.2
    | .error e => .error e
  | [], l', o, n, r => rfl
  | c :: l, l', o, n, r => by
    obtain ⟨id, c⟩ := c
    cases c with
    | none => exact withT_app l l' _ _ _
    | some x =>
      cases x with
      | error e => rfl
      | ok b => exact withT_app l l' _ _ _
theorem withT_gone {l : List St.Ch} {o : St.Objs} {n nx id : Int} {ov : OV} {r : List UInt8} {t : VT} (h : St.withT l o n [] = .ok (ovO ov, nx, r)) : St.withT (l ++ [chOf (id, t, true)]) o n [] = .ok (ovO (ovDel id ov), max nx (id + 1), r ++ num id ++ num 0) := by
  rw [withT_app, h]
  simp [chOf, St.withT, ovO_del]
theorem withT_put {l : List St.Ch} {o : St.Objs} {n nx id : Int} {ov : OV} {r : List UInt8} {t : VT} (v : Value) (he : encErr t = 0) (h : St.withT l o n [] = .ok (ovO ov, nx, r)) : St.withT (l ++ [chOf (id, t, false)]) o n [] = .ok (ovO (ovPut id v (encBytes t) ov), max nx (id + 1), r ++ num id ++ (num 1 ++ str (encBytes t))) := by
  rw [withT_app, h]
  simp [chOf, he, St.withT, ovO_put]
theorem withT_err {l l' : List St.Ch} {o : St.Objs} {n id : Int} {p : St.Objs × Int × List UInt8} {t : VT} (he : encErr t ≠ 0) (h : St.withT l o n [] = .ok p) : St.withT (l ++ chOf (id, t, false) :: l') o n [] = .error (encErr t) := by
  rw [withT_app, h]
  simp [chOf, he, St.withT]
def WithEnd (w : World) (A : Nat → Prop) (k : Nat) (r : Except Int (St.Objs × Int × List UInt8)) (e : Ending) (w' : World) : Prop := Below w.heap.size w w' ∧ match r with
  | .error x => e = .returned (.tuple #[.agg #[.map none, .int .i64 0], .slice none 0 0, .int .i64 x])
  | .ok p => ∃ mb' ov' v', e = .returned (.tuple #[.agg #[.map (some mb'), .int .i64 p.2.1], v', .int .i64 0]) ∧ w.heap.size ≤ mb' ∧ OMap w' mb' ov' ∧ ovO ov' = p.1 ∧ OvIn w' (fun j => (A j ∨ w.heap.size ≤ j) ∧ j ≠ mb') ov' ∧ ByteRow w' w.heap.size v' (num p.2.1 ++ num (k : Int) ++ p.2.2) ∧ (0 ≤ p.2.1 ∧ p.2.1 ≤ 2199023255552)
structure WiG (w3 : World) (A : Nat → Prop) (N mb B7 : Nat) : Prop where
  a : ∀ k, A k → k < mb ∧ k < B7
  ne : mb ≠ B7
  m : mb < N
  b : B7 < N
  n : N = w3.heap.size
structure WiS (w3 : World) (A : Nat → Prop) (N mb B7 : Nat) (ov : OV) (nx : Int) (v : Value) (r : List UInt8) (X : World) : Prop where
  map : OMap X mb ov
  vals : OvIn X (fun j => A j ∨ (N ≤ j ∧ v.ownBlock ≠ some j)) ov
  box : X.heap[B7]? = some (objO mb nx)
  row : ByteRow X N v r
  turn : Turn (fun k => k = B7 ∨ k = mb) w3 X
section
variable {w3 X X' : World} {A : Nat → Prop} {N mb B7 : Nat} {ov : OV} {nx : Int} {v : Value} {r : List UInt8}
theorem WiS.below (h : WiS w3 A N mb B7 ov nx v r X) (hb : Below X.heap.size X X') : WiS w3 A N mb B7 ov nx v r X' :=
  ⟨h.map.below hb, h.vals.turn (M := fun _ => False) (Turn.of_below hb) (fun _ _ h => h), (hb.block _ (lt_of_block h.box)).trans h.box, h.row.below hb, h.turn.thenBelow hb⟩
theorem WiS.own (h : WiS w3 A N mb B7 ov nx v r X) (g : WiG w3 A N mb B7) {v' : Value} {r' : List UInt8} (ho : OwnStep X v X' v') (hr : ByteRow X' N v' r') : WiS w3 A N mb B7 ov nx v' r' X' := by
  have t : Turn (fun k => v.ownBlock = some k) X X' := Turn.of_chg ho.1 (fun k hk => .inl (by simpa using hk))
  have hge : ∀ k, v.ownBlock = some k → N ≤ k := h.row.2
  have hs := h.turn.size
  have gn := g.n
  refine ⟨h.map.turn t (fun e => by have := hge _ e; have := g.m; omega), ?_, (t.block _ (lt_of_block h.box) (fun e => by have := hge _ e; have := g.b; omega)).trans h.box, hr, h.turn.trans t (fun k hk => .inr (by have := hge _ hk; omega))⟩
  have h1 : OvIn X (fun j => (A j ∨ (N ≤ j ∧ v.ownBlock ≠ some j)) ∧ j < X.heap.size) ov := h.vals.mono (fun k hl hk => ⟨hk, hl⟩)
  refine (h1.turn t (fun k hk e => ?_)).mono (fun k _ hk => ?_)
  · rcases hk.1 with hk | hk
    · have := hge _ e; have := g.a k hk; have := g.b; omega
    · exact hk.2 e
  · rcases hk.1 with h2 | h2
    · exact .inl h2
    · exact .inr ⟨h2.1, ho.apart hk.2 h2.2⟩
theorem WiS.next (h : WiS w3 A N mb B7 ov nx v r X) (g : WiG w3 A N mb B7) (n2 : Int) : WiS w3 A N mb B7 ov n2 v r (X.setCell ⟨B7, 1, none⟩ (.int .i64 n2)) := by
  have t : Turn (fun k => k = B7) X (X.setCell ⟨B7, 1, none⟩ (.int .i64 n2)) := Turn.of_chg (chg_set _ _ _ _) (fun k hk => .inl (by simpa using hk))
  have gb := g.b
  refine ⟨h.map.turn t g.ne, h.vals.turn t (fun k hk e => ?_), (dk_set (o := 1) (u := .int .i64 n2) h.box).trans rfl, h.row.turn t (fun k h1 h2 e => ?_), h.turn.trans t (fun k hk => .inl (.inl hk))⟩
  · rcases hk with hk | hk
    · have := g.a k hk; omega
    · omega
  · omega
theorem WiS.mapped (h : WiS w3 A N mb B7 ov nx v r X) (g : WiG w3 A N mb B7) {ov' : OV} (hc : Chg [mb] X X') (hm : OMap X' mb ov') (hv : OvIn X' (fun j => A j ∨ (N ≤ j ∧ v.ownBlock ≠ some j)) ov') : WiS w3 A N mb B7 ov' nx v r X' := by
  have t : Turn (fun k => k = mb) X X' := Turn.of_chg hc (fun k hk => .inl (by simpa using hk))
  have gm := g.m
  exact ⟨hm, hv, (t.block _ (lt_of_block h.box) (fun e => g.ne e.symm)).trans h.box, h.row.turn t (fun k h1 h2 e => by omega), h.turn.trans t (fun k hk => .inl (.inr hk))⟩
theorem WiS.kept (h : WiS w3 A N mb B7 ov nx v r X) (g : WiG w3 A N mb B7) (hc : Chg [mb] X X') : OvIn X' (fun j => A j ∨ (N ≤ j ∧ v.ownBlock ≠ some j)) ov := by
  have t : Turn (fun k => k = mb) X X' := Turn.of_chg hc (fun k hk => .inl (by simpa using hk))
  refine h.vals.turn t (fun k hk e => ?_)
  have gm := g.m
  rcases hk with hk | hk
  · have := g.a k hk; omega
  · omega
end
def WiI (w3 : World) (A : Nat → Prop) (N mb B7 n0 : Nat) (o0 : St.Objs) (next : Int) (cs : List CG) (k : Nat) (s8 s21 : Value) (X : World) : Prop :=
  ∃ (i : Nat) (ov : OV) (nx : Int) (r : List UInt8), s21 = .int .i64 (i : Int) ∧ i + k = cs.length ∧ St.withT ((cs.take i).map chOf) o0 next [] = .ok (ovO ov, nx, r) ∧ WiS w3 A N mb B7 ov nx s8 r X ∧
    ov.length ≤ n0 + i ∧ r.length ≤ 17000 * i ∧ 0 ≤ nx ∧ nx ≤ 2199023255552 ∧ (i = 0 ∨ r ≠ [])
theorem mclone_any {w : World} {b : Nat} {l : OV} (h : OMap w b l) : Calls Tryz.prog 89 #[.map (some b)] w fun e w' => e = .returned (.map (some w.heap.size)) ∧ OMap w' w.heap.size l ∧ Below w.heap.size w w' := h.clone Tryz.cloneMF
theorem strB_any (s : List UInt8) (hs : s.length ≤ 1000000) (w : World) : Calls Tryz.prog 92 #[.string (bytes s)] w (RowEnd w w.heap.size (str s)) := by
  have h := wireStr_any (bytes s) w (by rw [bytes_size]; omega)
  rwa [show (bytes s).data.toList = s by simp [bytes]] at h
theorem enc_len (t : VT) : (encBytes t).length ≤ 16384 := by
  unfold encBytes
  split
  · split
    · assumption
    · simp
  · simp
set_option maxRecDepth 100000 in
set_option maxHeartbeats 16000000 in
theorem with_any {w : World} {mb : Nat} {next : Int} {ov : OV} {A P : Nat → Prop} {v : Value} {cs : List CG} (hm : OMap w mb ov) (hv : OvIn w A ov) (hA : ∀ k, A k → k < w.heap.size) (hn : 0 ≤ next ∧ next ≤ 2199023255552) (hol : ov.length ≤ 1000000000) (hc : ChsAt w P v cs) (hP : ∀ b, P b → b < w.heap.size) (hl : cs.length ≤ 1000) (h0 : cs ≠ []) (hid : ∀ c ∈ cs, 1 ≤ c.1 ∧ c.1 ≤ 1099511627776) :
    Calls Tryz.prog 44 #[.agg #[.map (some mb), .int .i64 next], v] w (WithEnd w A cs.length (St.withT (cs.map chOf) (ovO ov) next [])) := by
  obtain ⟨ao, cap, rfl, _⟩ := hc.form
  have hb0 : Below w.heap.size w ((w.alloc (objO mb next)).alloc (.cells #[.map none, .int .i64 0] 100)) := ((Below.refl _ w).alloc (Nat.le_refl _) _).alloc (by simp) _
  have hz0 : ((w.alloc (objO mb next)).alloc (.cells #[.map none, .int .i64 0] 100)).heap.size = w.heap.size + 2 := by simp
  have hx2 : ((w.alloc (objO mb next)).alloc (.cells #[.map none, .int .i64 0] 100)).heap[w.heap.size]? = some (objO mb next) := blk_alloc (heap_alloc_new w _) _
  have hx4 : ((w.alloc (objO mb next)).alloc (.cells #[.map none, .int .i64 0] 100)).heap[w.heap.size + 1]? = some (.cells #[.map none, .int .i64 0] 100) := by
    have := heap_alloc_new (w.alloc (objO mb next)) (.cells #[.map none, .int .i64 0] 100)
    rwa [size_alloc] at this
  have HB0 := Lib.hid hb0
  have HZ0 := Lib.hid hz0
  have HX4 := Lib.hid hx4
  have HM := Lib.hid hm
  have HV := Lib.hid hv
  have HA := Lib.hid hA
  have HN := Lib.hid hn
  have HOL := Lib.hid hol
  have HCH := Lib.hid hc
  have HPL := Lib.hid hP
  have HL := Lib.hid hl
  have H0 := Lib.hid h0
  have HID := Lib.hid hid
  have HX2 := Lib.hid hx2
  clear hm hv hA hn hol hc hP hl h0 hid hb0 hz0 hx4 hx2
  obtain ⟨rr, hrr⟩ : ∃ r, St.withT (cs.map chOf) (ovO ov) next [] = r := ⟨_, rfl⟩
  have HRR := Lib.hid hrr
  rw [hrr]
  clear hrr
  go_enter Tryz.func44, Tryz.ntmps44
  go_wp2
  generalize ((w.alloc (objO mb next)).alloc (.cells #[.map none, .int .i64 0] 100)) = W0 at *
  -- REGION 1
  refine wp_mono (Q := noPanic (fun e a' X => e = .normal ∧ ∃ mb' B7, a' = { tmps := #[.agg #[.map (some mb), .int .i64 next], .slice ao cs.length cap, .pointer (some ⟨w.heap.size, 0, none⟩), undef, .pointer (some ⟨w.heap.size + 1, 0, none⟩), .slice none 0 0, .int .i64 0, .pointer (some ⟨B7, 0, none⟩), undef, undef, undef, undef, undef, .pointer (some ⟨w.heap.size, 0, none⟩), .map (some mb), .map (some mb'), .pointer (some ⟨w.heap.size, 1, none⟩), .int .i64 next, .agg #[.map (some mb'), .int .i64 next], undef, undef, undef, undef, undef, undef, undef, undef, undef, undef, undef, undef, undef, undef, undef, undef, undef, undef, undef, undef, undef, undef, undef, undef, undef, undef, undef, undef, undef, undef, undef, undef, undef, undef, undef, undef, undef, undef, undef, undef, undef, undef, undef, undef, undef, undef, undef, undef, undef, undef, undef, undef, undef, undef, undef, undef, undef, undef, undef, undef], defers := [] } ∧ W0.heap.size ≤ mb' ∧ W0.heap.size ≤ B7 ∧ mb' ≠ B7 ∧ OMap X mb' ov ∧ X.heap[B7]? = some (objO mb' next) ∧ Below W0.heap.size W0 X)) ?_ ?_
  · refine wp_region_held (S := (fun X => X.cell? ⟨w.heap.size, 0, none⟩ = some (.map (some mb)) ∧ X.cell? ⟨w.heap.size, 1, none⟩ = some (.int .i64 next))) (by kernel_rfl) ?_
    have HSE : Hid (∀ X, Below W0.heap.size W0 X → X.cell? ⟨w.heap.size, 0, none⟩ = some (.map (some mb)) ∧ X.cell? ⟨w.heap.size, 1, none⟩ = some (.int .i64 next)) := fun X hX => by
      have h2 := (hX.block _ (lt_of_block HX2.out)).trans HX2.out
      exact ⟨by simp [World.cell?, h2], by simp [World.cell?, h2]⟩
    have hHeld := HSE.out _ (Below.refl _ _).drew
    change wpAnyH _ _ _ _ _ _ _ _ W0.drew
    try simp only [List.size_toArray, List.length_cons, List.length_nil]
    refine wpAnyH_take (i := 0) (v := ?_) rfl (by kernel_rfl) (by kernel_rfl) (by kernel_rfl) (fun _ _ _ h => h) (Or.inl ⟨by rfl, ?_⟩) (by assumption) ?_
    rotate_left
    focus (intro w hSw; (try dsimp only at hSw); go_simp; try with_reducible rfl)
    try simp only [Act.put, List.getElem_toArray, List.getElem_cons_zero, List.getElem_cons_succ, List.setIfInBounds_toArray, List.set_cons_zero, List.set_cons_succ, Nat.zero_add]
    refine wpAnyH_take (i := 1) (v := ?_) rfl (by kernel_rfl) (by kernel_rfl) (by kernel_rfl) (fun _ _ _ h => h) (Or.inl ⟨by rfl, ?_⟩) (by assumption) ?_
    rotate_left
    focus (intro w hSw; (try dsimp only at hSw); go_simp; try with_reducible rfl)
    try simp only [Act.put, List.getElem_toArray, List.getElem_cons_zero, List.getElem_cons_succ, List.setIfInBounds_toArray, List.set_cons_zero, List.set_cons_succ, Nat.zero_add]
    refine wpAnyH_take (i := 3) (v := ?_) rfl (by kernel_rfl) (by kernel_rfl) (by kernel_rfl) (fun _ _ _ h => h) (Or.inl ⟨by rfl, ?_⟩) (by assumption) ?_
    rotate_left
    focus (intro w hSw; (try dsimp only at hSw); go_simp; try with_reducible rfl)
    try simp only [Act.put, List.getElem_toArray, List.getElem_cons_zero, List.getElem_cons_succ, List.setIfInBounds_toArray, List.set_cons_zero, List.set_cons_succ, Nat.zero_add]
    refine wpAnyH_take (i := 4) (v := ?_) rfl (by kernel_rfl) (by kernel_rfl) (by kernel_rfl) (fun _ _ _ h => h) (Or.inl ⟨by rfl, ?_⟩) (by assumption) ?_
    rotate_left
    focus (intro w hSw; (try dsimp only at hSw); go_simp; try with_reducible rfl)
    try simp only [Act.put, List.getElem_toArray, List.getElem_cons_zero, List.getElem_cons_succ, List.setIfInBounds_toArray, List.set_cons_zero, List.set_cons_succ, Nat.zero_add]
    refine wpAnyH_ready (rs := [2, 6]) (by kernel_rfl) (by simp) ?_
    refine (AllReadyH.cons rfl (fun K' hK => ?_) (AllReadyH.cons rfl (fun K' hK => ?_) AllReadyH.nil))
    · have HBD : Hid (Below W0.heap.size W0 W0.drew) := (Below.refl _ _).drew
      refine step_callw (by rfl) 89 #[.map (some mb)] ?_ (mclone_any (HM.out.below (HB0.out.trans (HBD.out.mono (by have := HB0.out.size; omega))))) ?_
      go_simp
      rintro e wc ⟨rfl, hmc, hbc⟩
      refine ⟨.map (some W0.drew.heap.size), rfl, ?_⟩
      have HMC := Lib.hid hmc
      have HBC : Hid (Below W0.heap.size W0 wc) := HBD.out.trans hbc
      have hmb0 : W0.heap.size ≤ W0.drew.heap.size := HBD.out.size
      have hmbl := hmc.lt
      generalize W0.drew.heap.size = mc at *
      clear hmc hbc
      refine hK.out _ _ (HSE.out _ HBC.out) (fun hHeld => ?_)
      clear hK K'
      try simp only [Act.put, List.getElem_toArray, List.getElem_cons_zero, List.getElem_cons_succ, List.setIfInBounds_toArray, List.set_cons_zero, List.set_cons_succ, Nat.zero_add]
      refine wpAnyH_take (i := 5) (v := ?_) rfl (by kernel_rfl) (by kernel_rfl) (by kernel_rfl) (fun _ _ _ h => h) (Or.inl ⟨by rfl, ?_⟩) (by assumption) ?_
      rotate_left
      focus (intro w hSw; (try dsimp only at hSw); go_simp; try with_reducible rfl)
      try simp only [Act.put, List.getElem_toArray, List.getElem_cons_zero, List.getElem_cons_succ, List.setIfInBounds_toArray, List.set_cons_zero, List.set_cons_succ, Nat.zero_add]
      refine wpAnyH_ready (rs := [6]) (by kernel_rfl) (by simp) ?_
      refine (AllReadyH.cons rfl (fun K' hK => ?_) AllReadyH.nil)
      go_simp
      have hbx : Below W0.heap.size W0 (wc.alloc (.cells #[.map none, .int .i64 0] 100)) := HBC.out.alloc HBC.out.size _
      have hnx := heap_alloc_new wc (.cells #[.map none, .int .i64 0] 100)
      have hmx := HMC.out.alloc (.cells #[.map none, .int .i64 0] 100)
      generalize wc.alloc (.cells #[.map none, .int .i64 0] 100) = wx at hbx hnx hmx ⊢
      have HBX := Lib.hid hbx
      have HMX := Lib.hid hmx
      have HNX := Lib.hid hnx
      have hB7 : W0.heap.size ≤ wc.heap.size := HBC.out.size
      have hne : mc ≠ wc.heap.size := by omega
      generalize wc.heap.size = B7 at *
      clear hbx hnx hmx
      refine hK.out _ _ (HSE.out _ HBX.out) (fun hHeld => ?_)
      clear hK K'
      try simp only [Act.put, List.getElem_toArray, List.getElem_cons_zero, List.getElem_cons_succ, List.setIfInBounds_toArray, List.set_cons_zero, List.set_cons_succ, Nat.zero_add]
      refine wpAnyH_ready (rs := [7]) (by kernel_rfl) (by simp) ?_
      refine (AllReadyH.cons rfl (fun K' hK => ?_) AllReadyH.nil)
      have hnx := HNX.out
      obtain ⟨n0, n1, nf⟩ : wx.cell? ⟨B7, 0, none⟩ = some (.map none) ∧ wx.cell? ⟨B7, 1, none⟩ = some (.int .i64 0) ∧ (∀ j, wx.frozen? ⟨B7, j, none⟩ = false) := ⟨by simp [World.cell?, hnx], by simp [World.cell?, hnx], fun j => by simp [World.frozen?, hnx]⟩
      go_simp
      have hs : ((wx.setCell ⟨B7, 0, none⟩ (.map (some mc))).setCell ⟨B7, 1, none⟩ (.int .i64 next)).heap[B7]? = some (objO mc next) := (dk_set (o := 1) (u := .int .i64 next) (dk_set (o := 0) (u := .map (some mc)) hnx)).trans rfl
      have hcs : Chg [B7] wx ((wx.setCell ⟨B7, 0, none⟩ (.map (some mc))).setCell ⟨B7, 1, none⟩ (.int .i64 next)) := (chg_set _ _ _ _).then1 (chg_set _ _ _ _)
      generalize ((wx.setCell ⟨B7, 0, none⟩ (.map (some mc))).setCell ⟨B7, 1, none⟩ (.int .i64 next)) = wy at hs hcs ⊢
      have ty : Turn (fun k => k = B7) wx wy := Turn.of_chg hcs (fun k hk => .inl (by simpa using hk))
      have hby : Below W0.heap.size W0 wy := HBX.out.trans (ty.below HBX.out.size (fun k hk => by omega))
      have hmy : OMap wy mc ov := HMX.out.turn ty (fun e => hne e)
      clear n0 n1 nf hnx hcs ty
      refine hK.out _ _ (HSE.out _ hby) (fun hHeld => ?_)
      clear hK K'
      try simp only [Act.put, List.getElem_toArray, List.getElem_cons_zero, List.getElem_cons_succ, List.setIfInBounds_toArray, List.set_cons_zero, List.set_cons_succ, Nat.zero_add]
      refine wpAnyH_done (by kernel_rfl) ?_ _
      exact ⟨rfl, mc, B7, rfl, hmb0, hB7, hne, hmy, hs, hby⟩
    · go_simp
      have hb1 : Below W0.heap.size W0 (W0.alloc (.cells #[.map none, .int .i64 0] 100)).drew := ((Below.refl _ _).alloc (Nat.le_refl _) _).drew
      have hn1 : (W0.alloc (.cells #[.map none, .int .i64 0] 100)).drew.heap[W0.heap.size]? = _ := heap_alloc_new W0 (.cells #[.map none, .int .i64 0] 100)
      have hz1 : (W0.alloc (.cells #[.map none, .int .i64 0] 100)).drew.heap.size = W0.heap.size + 1 := size_alloc _ _
      have hB7 : W0.heap.size ≤ W0.heap.size := Nat.le_refl _
      generalize (W0.alloc (.cells #[.map none, .int .i64 0] 100)).drew = w1 at hb1 hn1 hz1 ⊢
      have HB1 := Lib.hid hb1
      have HN1 := Lib.hid hn1
      have HZ1 := Lib.hid hz1
      clear hb1 hn1 hz1
      refine hK.out _ _ (HSE.out _ HB1.out) (fun hHeld => ?_)
      clear hK K'
      try simp only [Act.put, List.getElem_toArray, List.getElem_cons_zero, List.getElem_cons_succ, List.setIfInBounds_toArray, List.set_cons_zero, List.set_cons_succ, Nat.zero_add]
      refine wpAnyH_ready (rs := [2]) (by kernel_rfl) (by simp) ?_
      refine (AllReadyH.cons rfl (fun K' hK => ?_) AllReadyH.nil)
      refine step_callw (by rfl) 89 #[.map (some mb)] ?_ (mclone_any (HM.out.below (HB0.out.trans (HB1.out.mono (by have := HB0.out.size; omega))))) ?_
      go_simp
      rintro e wc ⟨rfl, hmc, hbc⟩
      refine ⟨.map (some w1.heap.size), rfl, ?_⟩
      have hz1 := HZ1.out
      have hmb0 : W0.heap.size ≤ w1.heap.size := by omega
      have hne : w1.heap.size ≠ W0.heap.size := by omega
      clear hz1
      have HMX := Lib.hid hmc
      have HNX : Hid (wc.heap[W0.heap.size]? = _) := (hbc.block W0.heap.size (by omega)).trans HN1.out
      have HBX : Hid (Below W0.heap.size W0 wc) := HB1.out.trans (hbc.mono hmb0)
      generalize w1.heap.size = mc at *
      clear hmc hbc
      rename World => wx
      refine hK.out _ _ (HSE.out _ HBX.out) (fun hHeld => ?_)
      clear hK K'
      try simp only [Act.put, List.getElem_toArray, List.getElem_cons_zero, List.getElem_cons_succ, List.setIfInBounds_toArray, List.set_cons_zero, List.set_cons_succ, Nat.zero_add]
      refine wpAnyH_take (i := 5) (v := ?_) rfl (by kernel_rfl) (by kernel_rfl) (by kernel_rfl) (fun _ _ _ h => h) (Or.inl ⟨by rfl, ?_⟩) (by assumption) ?_
      rotate_left
      focus (intro w hSw; (try dsimp only at hSw); go_simp; try with_reducible rfl)
      try simp only [Act.put, List.getElem_toArray, List.getElem_cons_zero, List.getElem_cons_succ, List.setIfInBounds_toArray, List.set_cons_zero, List.set_cons_succ, Nat.zero_add]
      refine wpAnyH_ready (rs := [7]) (by kernel_rfl) (by simp) ?_
      refine (AllReadyH.cons rfl (fun K' hK => ?_) AllReadyH.nil)
      have hnx := HNX.out
      obtain ⟨n0, n1, nf⟩ : wx.cell? ⟨W0.heap.size, 0, none⟩ = some (.map none) ∧ wx.cell? ⟨W0.heap.size, 1, none⟩ = some (.int .i64 0) ∧ (∀ j, wx.frozen? ⟨W0.heap.size, j, none⟩ = false) := ⟨by simp [World.cell?, hnx], by simp [World.cell?, hnx], fun j => by simp [World.frozen?, hnx]⟩
      go_simp
      have hs : ((wx.setCell ⟨W0.heap.size, 0, none⟩ (.map (some mc))).setCell ⟨W0.heap.size, 1, none⟩ (.int .i64 next)).heap[W0.heap.size]? = some (objO mc next) := (dk_set (o := 1) (u := .int .i64 next) (dk_set (o := 0) (u := .map (some mc)) hnx)).trans rfl
      have hcs : Chg [W0.heap.size] wx ((wx.setCell ⟨W0.heap.size, 0, none⟩ (.map (some mc))).setCell ⟨W0.heap.size, 1, none⟩ (.int .i64 next)) := (chg_set _ _ _ _).then1 (chg_set _ _ _ _)
      generalize ((wx.setCell ⟨W0.heap.size, 0, none⟩ (.map (some mc))).setCell ⟨W0.heap.size, 1, none⟩ (.int .i64 next)) = wy at hs hcs ⊢
      have ty : Turn (fun k => k = W0.heap.size) wx wy := Turn.of_chg hcs (fun k hk => .inl (by simpa using hk))
      have hby : Below W0.heap.size W0 wy := HBX.out.trans (ty.below HBX.out.size (fun k hk => by omega))
      have hmy : OMap wy mc ov := HMX.out.turn ty (fun e => hne e)
      clear n0 n1 nf hnx hcs ty
      refine hK.out _ _ (HSE.out _ hby) (fun hHeld => ?_)
      clear hK K'
      try simp only [Act.put, List.getElem_toArray, List.getElem_cons_zero, List.getElem_cons_succ, List.setIfInBounds_toArray, List.set_cons_zero, List.set_cons_succ, Nat.zero_add]
      refine wpAnyH_done (by kernel_rfl) ?_ _
      exact ⟨rfl, mc, W0.heap.size, rfl, hmb0, hB7, hne, hmy, hs, hby⟩
  rintro e a' X hpost
  cases e <;> first | exact hpost.elim | skip
  all_goals (obtain ⟨he, mc, B7, rfl, hmb0, hB7, hne, hmy, hs, hby⟩ := hpost)
  all_goals first | cases he | skip
  dsimp only [Exit.then]
  apply_assumption
  rename World => W3
  obtain ⟨N, hN⟩ : ∃ N, W3.heap.size = N := ⟨_, rfl⟩
  have hmcl := hmy.lt
  have hB7l := lt_of_block hs
  have hov3 : OvIn W3 A ov := HV.out.turn (M := fun _ => False) (Turn.of_below (HB0.out.trans (hby.mono HB0.out.size))) (fun _ _ h => h)
  have HQ : Hid (w.heap.size + 2 = W0.heap.size ∧ W0.heap.size ≤ mc ∧ W0.heap.size ≤ B7 ∧ mc ≠ B7 ∧ mc < N ∧ B7 < N ∧ N = W3.heap.size) := ⟨by have := HZ0.out; omega, hmb0, hB7, hne, by omega, by omega, hN.symm⟩
  have HBW : Hid (Below w.heap.size w W3) := HB0.out.trans (hby.mono HB0.out.size)
  have HX43 : Hid (W3.heap[w.heap.size + 1]? = _) := (hby.block _ (lt_of_block HX4.out)).trans HX4.out
  have HI0 : Hid (WiI W3 A N mc B7 ov.length (ovO ov) next cs cs.length (.slice none 0 0) (.int .i64 0) W3) := ⟨0, ov, next, [], rfl, by omega, rfl, ⟨hmy, hov3.mono (fun k _ hk => .inl hk), hs, nil_row _ _, Turn.refl _ _⟩, by omega, by simp, HN.out.1, HN.out.2, .inl rfl⟩
  have HG : Hid (WiG W3 A N mc B7) := ⟨fun k hk => by have := HA.out k hk; have := HZ0.out; omega, hne, by omega, by omega, hN.symm⟩
  clear hmb0 hB7 hne hmy hs hby hN hmcl hB7l hov3
  go_wp2
  go_loopg [8, 21] cs.length (fun gk s8 s21 wr => WiI W3 A N mc B7 ov.length (ovO ov) next cs gk s8 s21 wr)
  case atStart => exact HI0.out
  case round =>
    clear HI0
    rename World => wr
    obtain ⟨i, ovx, nx, r, rfl, hik, hwt, hws, hol, hrl, hn0, hn1, hir⟩ := hrel
    by_cases hlt : i < cs.length
    · obtain ⟨c, hc⟩ : ∃ c, cs[i]? = some c := ⟨_, List.getElem?_eq_getElem hlt⟩
      have hbr : Below w.heap.size w wr := HBW.out.trans (hws.turn.below HBW.out.size (fun k hk => by have := HQ.out; rcases hk with hk | hk <;> omega))
      obtain ⟨b, off, rfl, hPb, hcells⟩ := (HCH.out.below hbr HPL.out).at hc
      have hidc := HID.out c (List.mem_of_getElem? hc)
      obtain ⟨id, t, gone⟩ := c
      obtain ⟨k, n, s, ka, kl, kc, c0, c1, c2, c3, c4, c5, hvt, hwf⟩ := hcells.form
      dsimp only at c0 c5 hvt hwf hidc
      have g1 : (i : Int) < (cs.length : Int) := by omega
      have g2 : i * 6 + 6 ≤ cs.length * 6 := by omega
      have hwi : IntKind.i64.wrap ((i : Int) + 1) = (i : Int) + 1 := by rw [IntKind.wrap_i64]; have := HL.out; omega
      have hwid : IntKind.i64.wrap (id + 1) = id + 1 := by rw [IntKind.wrap_i64]; omega
      have HWS := Lib.hid hws
      have HIK := Lib.hid hik
      have HWT := Lib.hid hwt
      have HOLX := Lib.hid hol
      have HRL := Lib.hid hrl
      have HNX : Hid (0 ≤ nx ∧ nx ≤ 2199023255552) := ⟨hn0, hn1⟩
      have HC := Lib.hid hc
      have HBR := Lib.hid hbr
      have HIDC := Lib.hid hidc
      have HVT := Lib.hid hvt
      have HLT := Lib.hid hlt
      clear hik hwt hws hol hrl hn0 hn1 hir hlt hc hbr hcells hidc hvt hPb
      go_upto_region 6 with fail
      have hb1 : Below wr.heap.size wr (wr.alloc (.cells #[.int .i64 id, .int .i64 k, .int .i64 n, .string s, .slice ka kl kc, .bool gone] 35)) := (Below.refl _ _).alloc (Nat.le_refl _) _
      have h10 := heap_alloc_new wr (.cells #[.int .i64 id, .int .i64 k, .int .i64 n, .string s, .slice ka kl kc, .bool gone] 35)
      generalize wr.alloc (.cells #[.int .i64 id, .int .i64 k, .int .i64 n, .string s, .slice ka kl kc, .bool gone] 35) = w1 at hb1 h10 ⊢
      have hws1 := HWS.out.below hb1
      obtain ⟨bo0, bo1, bof⟩ : w1.cell? ⟨B7, 0, none⟩ = some (.map (some mc)) ∧ w1.cell? ⟨B7, 1, none⟩ = some (.int .i64 nx) ∧ (∀ j, w1.frozen? ⟨B7, j, none⟩ = false) := ⟨by simp [World.cell?, hws1.box], by simp [World.cell?, hws1.box], fun j => by simp [World.frozen?, hws1.box]⟩
      have d0 : w1.cell? ⟨wr.heap.size, 0, none⟩ = some (.int .i64 id) := by simp [World.cell?, h10]
      obtain ⟨T10, hT10⟩ : ∃ T, wr.heap.size = T := ⟨_, rfl⟩
      rw [hT10] at h10 d0 ⊢
      have HT10 := Lib.hid hT10
      have HB1 := Lib.hid hb1
      have H10 := Lib.hid h10
      have HWS1 := Lib.hid hws1
      clear hb1 h10 hws1 c0 c1 c2 c3 c4 c5 hT10
      go_upto_region 7 with fail
      obtain ⟨n2, hn2⟩ : ∃ n2, max nx (id + 1) = n2 := ⟨_, rfl⟩
      have hws2 := HWS1.out.next HG.out n2
      have hc2 : Chg [B7] w1 (w1.setCell ⟨B7, 1, none⟩ (.int .i64 n2)) := chg_set _ _ _ _
      have hown : ∀ k, u8.ownBlock = some k → k < wr.heap.size := fun k hk => HWS.out.row.1.lt hk
      have h10b := (hc2.block T10 (lt_of_block H10.out) (by have := HG.out.b; have := HG.out.n; have := HWS.out.turn.size; have := HT10.out; simp; omega)).trans H10.out
      have hbr2 : Below w.heap.size wr (w1.setCell ⟨B7, 1, none⟩ (.int .i64 n2)) := (HB1.out.mono HBR.out.size).trans (hc2.below (Nat.le_trans HBR.out.size HB1.out.size) (fun k hk => by have := HQ.out; simp at hk; omega))
      rw [hn2]
      generalize w1.setCell ⟨B7, 1, none⟩ (.int .i64 n2) = w2 at hws2 hc2 h10b hbr2 ⊢
      have HN2 := Lib.hid hn2
      have HWS2 := Lib.hid hws2
      have H10B := Lib.hid h10b
      have HBR2 := Lib.hid hbr2
      have HOWN : Hid (∀ k, u8.ownBlock = some k → k < T10) := fun k hk => by have := HT10.out; have := hown k hk; omega
      obtain ⟨ro, rc, hv8, _⟩ := HWS.out.row.form
      subst hv8
      have e0 : w2.cell? ⟨T10, 0, none⟩ = some (.int .i64 id) := by simp [World.cell?, h10b]
      clear hn2 hws2 hc2 h10b hbr2 hown bo0 bo1 bof d0
      go_upto_region 8 with (first
        | (go_at_call 90; go_loud (refine (wireNum_any id w2 (by have := HIDC.out; omega) (by have := HIDC.out; omega)).mono ?_; rintro e w3 ⟨v3, rfl, hr3, hb3⟩; obtain ⟨a3, p3, rfl, _⟩ := hr3.form; have HR3 := Lib.hid hr3; have HB3 := Lib.hid hb3; clear hr3 hb3))
        | (at_builtin; go_loud (refine wpList_appv (w := w3) (v := .slice ro r.length rc) rfl _ _ rfl rfl (HWS2.out.below HB3.out).row rfl (l := num id) (BytesIn.row HR3.out) (num_ne _) (by have := HWS2.out.turn.size; have := HG.out.n; have := HB3.out.size; omega) (by have := num_len (n := id) (by have := HIDC.out; omega) (by have := HIDC.out; omega); have := HRL.out; have := HL.out; have := HLT.out; have : 17000 * i ≤ 17000 * 1000 := Nat.mul_le_mul_left _ (by omega); omega) ?_; intro v4 w4 hr4 ho4; have hws4 := (HWS2.out.below HB3.out).own HG.out ho4 hr4; have HO4 := Lib.hid ho4; obtain ⟨r4, hr4e⟩ : ∃ r4, r ++ num id = r4 := ⟨_, rfl⟩; rw [hr4e] at hws4 hr4; obtain ⟨a4, p4, rfl, _⟩ := hr4.form; have HR4E := Lib.hid hr4e; have HWS4 := Lib.hid hws4; clear hws4 hr4 ho4 hr4e)))
      have hz2 := HBR2.out.size
      have hz0 := HBR.out.size
      have hrge := HWS2.out.row.2
      have hgn : w.heap.size ≤ N := by have := HQ.out; omega
      have hbr4 : Below w.heap.size wr w4 := (HBR2.out.trans (HB3.out.mono (Nat.le_trans hz0 hz2))).trans (HO4.out.below (Nat.le_trans (Nat.le_trans hz0 hz2) HB3.out.size) (fun k hk => Nat.le_trans hgn (hrge k hk)))
      have hT2 : T10 < w2.heap.size := lt_of_block H10B.out
      have h104 := (HO4.out.block (Nat.lt_of_lt_of_le hT2 HB3.out.size) (fun e => by have := HOWN.out _ e; omega)).trans ((HB3.out.block _ hT2).trans H10B.out)
      have hv4 : ValIs w4 P t (.agg #[.int .i64 k, .int .i64 n, .string s, .slice ka kl kc]) := HVT.out.below hbr4 HPL.out
      have hn4 : 0 ≤ n2 ∧ n2 ≤ 2199023255552 := by have h1 := HNX.out; have h2 := HIDC.out; have h3 := HN2.out; omega
      have hrl4 : r4.length ≤ 17000 * i + 10 := by have h1 := HRL.out; have h2 := num_len (n := id) (by have := HIDC.out; omega) (by have := HIDC.out; omega); rw [← HR4E.out, List.length_append]; omega
      have HBR4 := Lib.hid hbr4
      have HV4 := Lib.hid hv4
      have HN4 := Lib.hid hn4
      have HRL4 := Lib.hid hrl4
      have H104 := Lib.hid h104
      have HTL : Hid (T10 < w2.heap.size ∧ w2.heap.size ≤ w4.heap.size) := ⟨hT2, by have := HB3.out.size; have := HO4.out.size; omega⟩
      obtain ⟨bo0, bo1, bof⟩ : w4.cell? ⟨B7, 0, none⟩ = some (.map (some mc)) ∧ w4.cell? ⟨B7, 1, none⟩ = some (.int .i64 n2) ∧ (∀ j, w4.frozen? ⟨B7, j, none⟩ = false) := ⟨by simp [World.cell?, HWS4.out.box], by simp [World.cell?, HWS4.out.box], fun j => by simp [World.frozen?, HWS4.out.box]⟩
      obtain ⟨e0, e1, e2, e3, e4, e5⟩ : w4.cell? ⟨T10, 0, none⟩ = some (.int .i64 id) ∧ w4.cell? ⟨T10, 1, none⟩ = some (.int .i64 k) ∧ w4.cell? ⟨T10, 2, none⟩ = some (.int .i64 n) ∧ w4.cell? ⟨T10, 3, none⟩ = some (.string s) ∧ w4.cell? ⟨T10, 4, none⟩ = some (.slice ka kl kc) ∧ w4.cell? ⟨T10, 5, none⟩ = some (.bool gone) := ⟨by simp [World.cell?, h104], by simp [World.cell?, h104], by simp [World.cell?, h104], by simp [World.cell?, h104], by simp [World.cell?, h104], by simp [World.cell?, h104]⟩
      have HNUM : Hid (∀ m : Int, 0 ≤ m → m ≤ 1 → ∀ W, Calls Tryz.prog 90 #[.int .i64 m] W (RowEnd W W.heap.size (num m))) := fun m h1 h2 W => wireNum_any m W (by omega) (by omega)
      have HI1K : Hid (i < 1000) := by have := HL.out; have := HLT.out; show _ < _; omega
      clear hz2 hz0 hrge hgn hbr4 hT2 h104 hv4 hn4 hrl4
      cases gone with
      | true =>
        go_wp2_with (first
          | (at_delete; go_loud (refine wpList_delete_omap (w := w4) rfl _ _ rfl HWS4.out.map rfl id rfl (WalkArith.wf_i64 (by have := HIDC.out; omega)) ?_; intro w5 hm5 hc5; have hws5 := HWS4.out.mapped HG.out hc5 hm5 ((HWS4.out.kept HG.out hc5).del id); have HWS5 := Lib.hid hws5; clear hm5 hc5 hws5))
          | (go_at_call 90; go_loud (refine (HNUM.out 0 (by omega) (by omega) _).mono ?_; rintro e w6 ⟨v6, rfl, hr6, hb6⟩; obtain ⟨a6, p6, rfl, _⟩ := hr6.form; have HR6 := Lib.hid hr6; have HB6 := Lib.hid hb6; clear hr6 hb6))
          | (at_builtin; go_loud (refine wpList_appv (w := w6) (v := .slice a4 r4.length p4) rfl _ _ rfl rfl (HWS5.out.below HB6.out).row rfl (l := num 0) (BytesIn.row HR6.out) (num_ne _) (by have := HWS5.out.turn.size; have := HG.out.n; have := HB6.out.size; omega) (by have := num_len (n := 0) (by omega) (by omega); have := HRL4.out; have := HI1K.out; have : 17000 * i ≤ 17000 * 1000 := Nat.mul_le_mul_left _ (by omega); omega) ?_; intro v7 w7 hr7 ho7; have hws7 := (HWS5.out.below HB6.out).own HG.out ho7 hr7; have HWS7 := Lib.hid hws7; clear hr7 ho7 hws7)))
        go_roundg (gk - 1)
        case measure => have := HIK.out; omega
        case rel =>
          have hnx := HN4.out
          have hn0l := num_len (n := 0) (by omega) (by omega)
          refine ⟨i + 1, ovDel id ovx, n2, _, by go_num, by have := HIK.out; omega, ?_, HWS7.out, ?_, ?_, hnx.1, hnx.2, .inr ?_⟩
          · rw [take_snoc HC.out, List.map_append]
            have := withT_gone (t := t) (id := id) HWT.out
            rw [HN2.out, HR4E.out] at this
            exact this
          · have h1 := HOLX.out
            have h2 : (ovDel id ovx).length ≤ ovx.length := List.length_filter_le _ _
            omega
          · rw [List.length_append]
            have := HRL4.out
            omega
          · intro e
            exact num_ne 0 (List.append_eq_nil_iff.1 e).2
      | false =>
        obtain ⟨ee, hee⟩ : ∃ ee, encErr t = ee := ⟨_, rfl⟩
        obtain ⟨bs, hbs⟩ : ∃ bs, encBytes t = bs := ⟨_, rfl⟩
        have HEE := Lib.hid hee
        have HBS := Lib.hid hbs
        have HEN : Hid (Calls Tryz.prog 91 #[.agg #[.int .i64 k, .int .i64 n, .string s, .slice ka kl kc]] w4 (EncEnd w4 t)) := encode_any t _ w4 P HV4.out (fun x hx => Nat.lt_of_lt_of_le (HPL.out x hx) (Nat.le_trans HBR.out.size HBR4.out.size))
        clear hee hbs
        by_cases hz : ee = 0
        · subst hz
          have hq := HQ.out
          go_upto_region 15 with (first
            | (go_at_call 91; go_loud (have hq5 := HEN.out; unfold EncEnd at hq5; rw [HEE.out, HBS.out] at hq5; refine hq5.mono ?_; clear hq5; rintro e w5 ⟨v5, rfl, hr5, hb5⟩; obtain ⟨a5, p5, rfl, _⟩ := hr5.form; have hws5 := HWS4.out.below hb5; obtain ⟨co0, co1, cof⟩ : w5.cell? ⟨B7, 0, none⟩ = some (.map (some mc)) ∧ w5.cell? ⟨B7, 1, none⟩ = some (.int .i64 n2) ∧ (∀ j, w5.frozen? ⟨B7, j, none⟩ = false) := ⟨by simp [World.cell?, hws5.box], by simp [World.cell?, hws5.box], fun j => by simp [World.frozen?, hws5.box]⟩; have h105 := (hb5.block _ (lt_of_block H104.out)).trans H104.out; have f0 : w5.cell? ⟨T10, 0, none⟩ = some (.int .i64 id) := (by simp [World.cell?, h105]); have HR5 := Lib.hid hr5; have HB5 := Lib.hid hb5; have HWS5 := Lib.hid hws5; clear hr5 hb5 hws5 h105))
            | (at_mapUpdate; go_loud (refine wpList_update_omap (w := w5) rfl _ _ _ rfl HWS5.out.map (by have h1 := HOLX.out; have h2 := HOL.out; have h3 := HI1K.out; unfold maxLen; omega) rfl id (.slice a5 bs.length p5) bs rfl rfl (WalkArith.wf_i64 (by have := HIDC.out; omega)) ?_; intro w6 hm6 hc6; have hbin : BIn w6 (fun j => A j ∨ (N ≤ j ∧ (Value.slice a4 r4.length p4).ownBlock ≠ some j)) (.slice a5 bs.length p5) bs := (((BIn.of_row (A := fun k => w4.heap.size ≤ k) HR5.out (fun k hk => hk)).turn (Turn.of_chg (M := fun k => k = mc) hc6 (fun k hk => .inl (by simpa using hk))) (fun k hk e => by have h1 := HWS4.out.map.lt; omega)).mono (fun k _ hk => .inr ⟨by have h1 := HWS4.out.turn.size; have h2 := HG.out.n; omega, fun e => by have h1 := HWS4.out.row.1.lt e; omega⟩)); have hws6 := HWS5.out.mapped HG.out hc6 hm6 ((HWS5.out.kept HG.out hc6).put id hbin); have HWS6 := Lib.hid hws6; clear hm6 hc6 hbin hws6)))
          have HSE : Hid (∀ X nx v r, WiS W3 A N mc B7 (ovPut id (.slice a5 bs.length p5) bs ovx) nx v r X → (convert 44 9 (.slice a5 bs.length p5)).run Tryz.prog X = .ok (.string (bytes bs)) X) := fun X nx v r hw => run_bytes_str (hw.vals _ (mem_ovIns.2 (.inl rfl))).bytesIn
          have HWD := Lib.hid (HWS6.out.below (Below.refl _ _).drew)
          have HNN : Hid (∀ (ov : OV) nx v r X, WiS W3 A N mc B7 ov nx v r X → N ≤ X.heap.size) := fun ov nx v r X hw => by have h1 := hw.turn.size; have h2 := HG.out.n; omega
          have hEL := enc_len t
          rw [HBS.out] at hEL
          have hSL := str_len (s := bs) (by omega)
          have HSL : Hid ((str bs).length ≤ 16394) := by show _ ≤ _; omega
          have HBL : Hid (bs.length ≤ 16384) := hEL
          clear hEL hSL hq
          refine wp_region_held (S := (fun X => (convert 44 9 (.slice a5 bs.length p5)).run Tryz.prog X = .ok (.string (bytes bs)) X)) (by kernel_rfl) ?_
          have hHeld := HSE.out _ _ _ _ HWD.out
          change wpAnyH _ _ _ _ _ _ _ _ w6.drew
          try simp only [List.size_toArray, List.length_cons, List.length_nil]
          refine wpAnyH_take (i := 0) (v := ?_) rfl (by kernel_rfl) (by kernel_rfl) (by kernel_rfl) (fun _ _ _ h => h) (Or.inl ⟨by rfl, ?_⟩) (by assumption) ?_
          rotate_left
          focus (intro w hSw; (try dsimp only at hSw); go_simp; try with_reducible rfl)
          try simp only [Act.put, List.getElem_toArray, List.getElem_cons_zero, List.getElem_cons_succ, List.setIfInBounds_toArray, List.set_cons_zero, List.set_cons_succ, Nat.zero_add]
          refine wpAnyH_take (i := 3) (v := ?_) rfl (by kernel_rfl) (by kernel_rfl) (by kernel_rfl) (fun _ _ _ h => h) (Or.inl ⟨by rfl, ?_⟩) (by assumption) ?_
          rotate_left
          focus (intro w hSw; (try dsimp only at hSw); go_simp; try with_reducible rfl)
          try simp only [Act.put, List.getElem_toArray, List.getElem_cons_zero, List.getElem_cons_succ, List.setIfInBounds_toArray, List.set_cons_zero, List.set_cons_succ, Nat.zero_add]
          refine wpAnyH_take (i := 4) (v := ?_) rfl (by kernel_rfl) (by kernel_rfl) (by kernel_rfl) (fun _ _ _ h => h) (Or.inl ⟨by rfl, ?_⟩) (by assumption) ?_
          rotate_left
          focus (intro w hSw; (try dsimp only at hSw); go_simp; try with_reducible rfl)
          try simp only [Act.put, List.getElem_toArray, List.getElem_cons_zero, List.getElem_cons_succ, List.setIfInBounds_toArray, List.set_cons_zero, List.set_cons_succ, Nat.zero_add]
          refine wpAnyH_ready (rs := [1]) (by kernel_rfl) (by simp) ?_
          refine (AllReadyH.cons rfl (fun K' hK => ?_) AllReadyH.nil)
          refine step_callw (by rfl) 90 #[.int .i64 1] ?_ (HNUM.out 1 (by omega) (by omega) _) ?_
          go_simp
          rintro e w7 ⟨v7, rfl, hr7, hb7⟩
          obtain ⟨a7, p7, rfl, _⟩ := hr7.form
          refine ⟨.slice a7 (num 1).length p7, rfl, ?_⟩
          have hws7 := HWD.out.below hb7
          have HR7 := Lib.hid hr7
          have HWS7 := Lib.hid hws7
          clear hr7 hb7 hws7
          refine hK.out _ _ (HSE.out _ _ _ _ HWS7.out) (fun hHeld => ?_)
          clear hK K'
          try simp only [Act.put, List.getElem_toArray, List.getElem_cons_zero, List.getElem_cons_succ, List.setIfInBounds_toArray, List.set_cons_zero, List.set_cons_succ, Nat.zero_add]
          refine wpAnyH_ready (rs := [2]) (by kernel_rfl) (by simp) ?_
          refine (AllReadyH.cons rfl (fun K' hK => ?_) AllReadyH.nil)
          refine step_appv (w := w7) (by rfl) _ _ rfl (v := .slice a4 r4.length p4) rfl HWS7.out.row rfl (BytesIn.row HR7.out) (num_ne _) (HNN.out _ _ _ _ _ HWS7.out) (by have := num_len (n := 1) (by omega) (by omega); have := HRL4.out; have := HI1K.out; have : 17000 * i ≤ 17000 * 1000 := Nat.mul_le_mul_left _ (by omega); omega) ?_
          intro v8 w8 hr8 ho8
          have hws8 := HWS7.out.own HG.out ho8 hr8
          obtain ⟨r8, hr8e⟩ : ∃ r8, r4 ++ num 1 = r8 := ⟨_, rfl⟩
          rw [hr8e] at hws8 hr8
          have HR8E := Lib.hid hr8e
          obtain ⟨a8, p8, rfl, _⟩ := hr8.form
          have HWS8 := Lib.hid hws8
          have hr8l : r8.length ≤ 17000 * i + 20 := by rw [← hr8e, List.length_append]; have := num_len (n := 1) (by omega) (by omega); have := HRL4.out; omega
          have HR8L := Lib.hid hr8l
          clear hr8 ho8 hws8 hr8e hr8l
          refine hK.out _ _ (HSE.out _ _ _ _ HWS8.out) (fun hHeld => ?_)
          clear hK K'
          try simp only [Act.put, List.getElem_toArray, List.getElem_cons_zero, List.getElem_cons_succ, List.setIfInBounds_toArray, List.set_cons_zero, List.set_cons_succ, Nat.zero_add]
          refine wpAnyH_ready (rs := [5]) (by kernel_rfl) (by simp) ?_
          refine (AllReadyH.cons rfl (fun K' hK => ?_) AllReadyH.nil)
          refine step_callw (by rfl) 92 #[.string (bytes bs)] ?_ (strB_any bs (by have := HBL.out; omega) w8) ?_
          go_simp
          rintro e w9 ⟨v9, rfl, hr9, hb9⟩
          obtain ⟨a9, p9, rfl, _⟩ := hr9.form
          refine ⟨.slice a9 (str bs).length p9, rfl, ?_⟩
          have hws9 := HWS8.out.below hb9
          have HR9 := Lib.hid hr9
          have HWS9 := Lib.hid hws9
          clear hr9 hb9 hws9
          refine hK.out _ _ (HSE.out _ _ _ _ HWS9.out) (fun hHeld => ?_)
          clear hK K'
          try simp only [Act.put, List.getElem_toArray, List.getElem_cons_zero, List.getElem_cons_succ, List.setIfInBounds_toArray, List.set_cons_zero, List.set_cons_succ, Nat.zero_add]
          refine wpAnyH_ready (rs := [6]) (by kernel_rfl) (by simp) ?_
          refine (AllReadyH.cons rfl (fun K' hK => ?_) AllReadyH.nil)
          refine step_appv (w := w9) (by rfl) _ _ rfl (v := .slice a8 r8.length p8) rfl HWS9.out.row rfl (BytesIn.row HR9.out) (str_ne _) (HNN.out _ _ _ _ _ HWS9.out) (by have := HSL.out; have := HR8L.out; have := HI1K.out; have : 17000 * i ≤ 17000 * 1000 := Nat.mul_le_mul_left _ (by omega); omega) ?_
          intro vA wA hrA hoA
          have hwsA := HWS9.out.own HG.out hoA hrA
          have HWSA := Lib.hid hwsA
          clear hrA hoA hwsA
          refine hK.out _ _ (HSE.out _ _ _ _ HWSA.out) (fun hHeld => ?_)
          clear hK K'
          try simp only [Act.put, List.getElem_toArray, List.getElem_cons_zero, List.getElem_cons_succ, List.setIfInBounds_toArray, List.set_cons_zero, List.set_cons_succ, Nat.zero_add]
          refine wpAnyH_take (i := 7) (v := ?_) rfl (by kernel_rfl) (by kernel_rfl) (by kernel_rfl) (fun _ _ _ h => h) (Or.inl ⟨by rfl, ?_⟩) (by assumption) ?_
          rotate_left
          focus (intro w hSw; (try dsimp only at hSw); go_simp; try with_reducible rfl)
          try simp only [Act.put, List.getElem_toArray, List.getElem_cons_zero, List.getElem_cons_succ, List.setIfInBounds_toArray, List.set_cons_zero, List.set_cons_succ, Nat.zero_add]
          refine wpAnyH_done (by kernel_rfl) ?_ _
          dsimp only [Exit.inBlock, Exit.then]
          apply_assumption
          go_wp2
          go_roundg (gk - 1)
          case measure => have := HIK.out; omega
          case rel =>
            have hnx := HN4.out
            refine ⟨i + 1, ovPut id (.slice a5 bs.length p5) bs ovx, n2, _, by go_num, by have := HIK.out; omega, ?_, HWSA.out, ?_, ?_, hnx.1, hnx.2, .inr ?_⟩
            · rw [take_snoc HC.out, List.map_append]
              have := withT_put (t := t) (id := id) (.slice a5 bs.length p5) HEE.out HWT.out
              rw [HN2.out, HR4E.out, HBS.out, ← List.append_assoc, HR8E.out] at this
              exact this
            · have h1 := HOLX.out
              have h2 := ovPut_len_le id (.slice a5 bs.length p5) bs ovx
              omega
            · rw [List.length_append]
              have := HR8L.out
              have := HSL.out
              omega
            · intro e
              exact str_ne bs (List.append_eq_nil_iff.1 e).2
        · have q1 : (ee != 0) = true := by simpa using hz
          have q2 : (ee == 0) = false := by simpa using hz
          have HZ := Lib.hid hz
          clear hz
          have hq := HQ.out
          have hrr : rr = .error ee := by
            have h1 : cs = cs.take i ++ (id, t, false) :: cs.drop (i + 1) := by
              have h2 := HC.out
              have h3 := (List.getElem?_eq_some_iff.1 h2)
              obtain ⟨h4, h5⟩ := h3
              rw [← h5, ← List.drop_eq_getElem_cons h4, List.take_append_drop]
            have h6 := withT_err (t := t) (id := id) (l' := (cs.drop (i + 1)).map chOf) (by rw [HEE.out]; exact HZ.out) HWT.out
            rw [← HRR.out, h1, List.map_append, List.map_cons, h6, HEE.out]
          have HRE := Lib.hid hrr
          clear hrr
          go_wp2_with (go_at_call 91; go_loud (have hq5 := HEN.out; unfold EncEnd at hq5; rw [HEE.out, HBS.out] at hq5; refine hq5.mono ?_; clear hq5; rintro e w5 ⟨v5, rfl, hr5, hb5⟩; obtain ⟨a5, p5, rfl, _⟩ := hr5.form; have hws5 := HWS4.out.below hb5; have h45 : w5.heap[w.heap.size + 1]? = some (.cells #[.map none, .int .i64 0] 100) := (hws5.turn.block (w.heap.size + 1) (by omega) (fun e => by omega)).trans HX43.out; obtain ⟨z0, z1, zf⟩ : w5.cell? ⟨w.heap.size + 1, 0, none⟩ = some (.map none) ∧ w5.cell? ⟨w.heap.size + 1, 1, none⟩ = some (.int .i64 0) ∧ (∀ j, w5.frozen? ⟨w.heap.size + 1, j, none⟩ = false) := ⟨by simp [World.cell?, h45], by simp [World.cell?, h45], fun j => by simp [World.frozen?, h45]⟩; have H45 := Lib.hid h45; have HB5 : Hid (Below w.heap.size w w5) := HBR.out.trans (HBR4.out.trans (hb5.mono (Nat.le_trans HBR.out.size HBR4.out.size))); clear hr5 hb5 hws5 h45))
          have hs : ((w5.setCell ⟨w.heap.size + 1, 0, none⟩ (.map none)).setCell ⟨w.heap.size + 1, 1, none⟩ (.int .i64 0)).heap[w.heap.size + 1]? = some (.cells #[.map none, .int .i64 0] 100) := (dk_set (o := 1) (u := .int .i64 0) (dk_set (o := 0) (u := .map none) H45.out)).trans rfl
          have hcs : Chg [w.heap.size + 1] w5 ((w5.setCell ⟨w.heap.size + 1, 0, none⟩ (.map none)).setCell ⟨w.heap.size + 1, 1, none⟩ (.int .i64 0)) := (chg_set _ _ _ _).then1 (chg_set _ _ _ _)
          generalize ((w5.setCell ⟨w.heap.size + 1, 0, none⟩ (.map none)).setCell ⟨w.heap.size + 1, 1, none⟩ (.int .i64 0)) = w6 at hs hcs ⊢
          have hb6 : Below w.heap.size w w6 := HB5.out.trans (hcs.below HB5.out.size (fun k hk => by simp at hk; omega))
          obtain ⟨y0, y1⟩ : w6.cell? ⟨w.heap.size + 1, 0, none⟩ = some (.map none) ∧ w6.cell? ⟨w.heap.size + 1, 1, none⟩ = some (.int .i64 0) := ⟨by simp [World.cell?, hs], by simp [World.cell?, hs]⟩
          refine bodyPost_ret (v := .tuple #[.agg #[.map none, .int .i64 0], .slice none 0 0, .int .i64 ee]) (by simp [results, Tryz.results44, go_sem, y0, y1]) rfl ?_
          rw [HRE.out]
          exact ⟨hb6, rfl⟩
    · obtain rfl : i = cs.length := by omega
      have g1 : ¬ ((cs.length : Int) < (cs.length : Int)) := by omega
      rw [List.take_length] at hwt
      have HRE : Hid (rr = .ok (ovO ovx, nx, r)) := HRR.out.symm.trans hwt
      have HRN : Hid (r ≠ []) := by
        rcases hir with h | h
        · exact absurd (List.length_eq_zero_iff.1 h) H0.out
        · exact h
      have HWS := Lib.hid hws
      have HNX : Hid (0 ≤ nx ∧ nx ≤ 2199023255552) := ⟨hn0, hn1⟩
      have HRL : Hid (r.length ≤ 17000000) := by have := HL.out; show _ ≤ _; omega
      have hws0 := hws.below (Below.refl _ _).drew
      have HWD := Lib.hid hws0
      obtain ⟨ro, rc, hv8, _⟩ := hws.row.form
      subst hv8
      have HSE : Hid (∀ X ov nx v r, WiS W3 A N mc B7 ov nx v r X → X.cell? ⟨B7, 0, none⟩ = some (.map (some mc)) ∧ X.cell? ⟨B7, 1, none⟩ = some (.int .i64 nx)) := fun X ov nx v r hw => ⟨by simp [World.cell?, hw.box], by simp [World.cell?, hw.box]⟩
      have HBR : Hid (Below w.heap.size w wr) := HBW.out.trans (hws.turn.below HBW.out.size (fun k hk => by have := HQ.out; rcases hk with hk | hk <;> omega))
      clear hik hwt hws hol hrl hn0 hn1 hir hlt hws0
      go_upto_region 17 with fail
      refine wp_region_held (S := (fun X => X.cell? ⟨B7, 0, none⟩ = some (.map (some mc)) ∧ X.cell? ⟨B7, 1, none⟩ = some (.int .i64 nx))) (by kernel_rfl) ?_
      have hHeld := HSE.out _ _ _ _ _ HWD.out
      change wpAnyH _ _ _ _ _ _ _ _ wr.drew
      try simp only [List.size_toArray, List.length_cons, List.length_nil]
      refine wpAnyH_take (i := 0) (v := ?_) rfl (by kernel_rfl) (by kernel_rfl) (by kernel_rfl) (fun _ _ _ h => h) (Or.inl ⟨by rfl, ?_⟩) (by assumption) ?_
      rotate_left
      focus (intro w hSw; (try dsimp only at hSw); go_simp; try with_reducible rfl)
      try simp only [Act.put, List.getElem_toArray, List.getElem_cons_zero, List.getElem_cons_succ, List.setIfInBounds_toArray, List.set_cons_zero, List.set_cons_succ, Nat.zero_add]
      refine wpAnyH_take (i := 1) (v := ?_) rfl (by kernel_rfl) (by kernel_rfl) (by kernel_rfl) (fun _ _ _ h => h) (Or.inl ⟨by rfl, ?_⟩) (by assumption) ?_
      rotate_left
      focus (intro w hSw; (try dsimp only at hSw); go_simp; try with_reducible rfl)
      try simp only [Act.put, List.getElem_toArray, List.getElem_cons_zero, List.getElem_cons_succ, List.setIfInBounds_toArray, List.set_cons_zero, List.set_cons_succ, Nat.zero_add]
      refine wpAnyH_take (i := 2) (v := ?_) rfl (by kernel_rfl) (by kernel_rfl) (by kernel_rfl) (fun _ _ _ h => h) (Or.inl ⟨by rfl, ?_⟩) (by assumption) ?_
      rotate_left
      focus (intro w hSw; (try dsimp only at hSw); go_simp; try with_reducible rfl)
      try simp only [Act.put, List.getElem_toArray, List.getElem_cons_zero, List.getElem_cons_succ, List.setIfInBounds_toArray, List.set_cons_zero, List.set_cons_succ, Nat.zero_add]
      refine wpAnyH_take (i := 4) (v := ?_) rfl (by kernel_rfl) (by kernel_rfl) (by kernel_rfl) (fun _ _ _ h => h) (Or.inl ⟨by rfl, ?_⟩) (by assumption) ?_
      rotate_left
      focus (intro w hSw; (try dsimp only at hSw); go_simp; try with_reducible rfl)
      try simp only [Act.put, List.getElem_toArray, List.getElem_cons_zero, List.getElem_cons_succ, List.setIfInBounds_toArray, List.set_cons_zero, List.set_cons_succ, Nat.zero_add]
      refine wpAnyH_take (i := 5) (v := ?_) rfl (by kernel_rfl) (by kernel_rfl) (by kernel_rfl) (fun _ _ _ h => h) (Or.inl ⟨by rfl, ?_⟩) (by assumption) ?_
      rotate_left
      focus (intro w hSw; (try dsimp only at hSw); go_simp; try with_reducible rfl)
      try simp only [Act.put, List.getElem_toArray, List.getElem_cons_zero, List.getElem_cons_succ, List.setIfInBounds_toArray, List.set_cons_zero, List.set_cons_succ, Nat.zero_add]
      refine wpAnyH_take (i := 7) (v := ?_) rfl (by kernel_rfl) (by kernel_rfl) (by kernel_rfl) (fun _ _ _ h => h) (Or.inl ⟨by rfl, ?_⟩) (by assumption) ?_
      rotate_left
      focus (intro w hSw; (try dsimp only at hSw); go_simp; try with_reducible rfl)
      try simp only [Act.put, List.getElem_toArray, List.getElem_cons_zero, List.getElem_cons_succ, List.setIfInBounds_toArray, List.set_cons_zero, List.set_cons_succ, Nat.zero_add]
      refine wpAnyH_ready (rs := [3]) (by kernel_rfl) (by simp) ?_
      refine (AllReadyH.cons rfl (fun K' hK => ?_) AllReadyH.nil)
      refine step_callw (by rfl) 90 #[.int .i64 nx] ?_ (wireNum_any nx _ (by have := HNX.out; omega) (by have := HNX.out; omega)) ?_
      go_simp
      rintro e w7 ⟨v7, rfl, hr7, hb7⟩
      obtain ⟨a7, p7, rfl, _⟩ := hr7.form
      refine ⟨.slice a7 (num nx).length p7, rfl, ?_⟩
      have hws7 := HWD.out.below hb7
      have HR7 := Lib.hid hr7
      have HWS7 := Lib.hid hws7
      have HB7 : Hid (Below wr.heap.size wr w7) := (Below.refl _ _).drew.trans hb7
      clear hr7 hb7 hws7
      refine hK.out _ _ (HSE.out _ _ _ _ _ HWS7.out) (fun hHeld => ?_)
      clear hK K'
      try simp only [Act.put, List.getElem_toArray, List.getElem_cons_zero, List.getElem_cons_succ, List.setIfInBounds_toArray, List.set_cons_zero, List.set_cons_succ, Nat.zero_add]
      refine wpAnyH_ready (rs := [6]) (by kernel_rfl) (by simp) ?_
      refine (AllReadyH.cons rfl (fun K' hK => ?_) AllReadyH.nil)
      refine step_callw (by rfl) 90 #[.int .i64 (cs.length : Int)] ?_ (wireNum_any _ w7 (by have := HL.out; omega) (by have := HL.out; omega)) ?_
      go_simp
      rintro e w8 ⟨v8, rfl, hr8, hb8⟩
      obtain ⟨a8, p8, rfl, _⟩ := hr8.form
      refine ⟨.slice a8 (num (cs.length : Int)).length p8, rfl, ?_⟩
      have hws8 := HWS7.out.below hb8
      have hr78 := HR7.out.below hb8
      have HR8 := Lib.hid hr8
      have HR78 := Lib.hid hr78
      have HWS8 := Lib.hid hws8
      have HB8 : Hid (Below wr.heap.size wr w8) := HB7.out.trans (hb8.mono HB7.out.size)
      clear hr8 hb8 hws8 hr78
      refine hK.out _ _ (HSE.out _ _ _ _ _ HWS8.out) (fun hHeld => ?_)
      clear hK K'
      try simp only [Act.put, List.getElem_toArray, List.getElem_cons_zero, List.getElem_cons_succ, List.setIfInBounds_toArray, List.set_cons_zero, List.set_cons_succ, Nat.zero_add]
      refine wpAnyH_ready (rs := [8]) (by kernel_rfl) (by simp) ?_
      refine (AllReadyH.cons rfl (fun K' hK => ?_) AllReadyH.nil)
      go_simp
      have hal : Below w8.heap.size w8 (w8.alloc (.cells #[.slice a7 (num nx).length p7, .slice a8 (num (cs.length : Int)).length p8, .slice ro r.length rc] 44)) := (Below.refl _ _).alloc (Nat.le_refl _) _
      have hnew := heap_alloc_new w8 (.cells #[.slice a7 (num nx).length p7, .slice a8 (num (cs.length : Int)).length p8, .slice ro r.length rc] 44)
      generalize w8.alloc (.cells #[.slice a7 (num nx).length p7, .slice a8 (num (cs.length : Int)).length p8, .slice ro r.length rc] 44) = w9 at hal hnew ⊢
      have hws9 := HWS8.out.below hal
      have hr79 := HR78.out.below hal
      have hr89 := HR8.out.below hal
      have HWS9 := Lib.hid hws9
      have HB9 : Hid (Below wr.heap.size wr w9) := HB8.out.trans (hal.mono HB8.out.size)
      have HCON : Hid (Calls Tryz.prog 93 #[.slice (some ⟨w8.heap.size, 0, none⟩) 3 3] w9 (RowEnd w9 w9.heap.size (num nx ++ num (cs.length : Int) ++ r))) := by
        have h := concat_any [num nx, num (cs.length : Int), r] w9 w8.heap.size (fun l hl => by simp at hl; rcases hl with rfl | rfl | rfl; exact num_ne _; exact num_ne _; exact HRN.out) (by have h1 := num_len (n := nx) (by have := HNX.out; omega) (by have := HNX.out; omega); have h2 := num_len (n := (cs.length : Int)) (by have := HL.out; omega) (by have := HL.out; omega); have h3 := HRL.out; simp; omega) (by simp) (fun i l hl => by
          match i with
          | 0 => cases hl; exact ⟨_, _, by simp [World.cell?, hnew], hr79⟩
          | 1 => cases hl; exact ⟨_, _, by simp [World.cell?, hnew], hr89⟩
          | 2 => cases hl; exact ⟨_, _, by simp [World.cell?, hnew], hws9.row⟩
          | k + 3 => simp at hl)
        rw [show ([num nx, num (cs.length : Int), r] : List (List UInt8)).flatten = num nx ++ num (cs.length : Int) ++ r by simp] at h
        exact h
      clear hal hnew hws9 hr79 hr89
      refine hK.out _ _ (HSE.out _ _ _ _ _ HWS9.out) (fun hHeld => ?_)
      clear hK K'
      try simp only [Act.put, List.getElem_toArray, List.getElem_cons_zero, List.getElem_cons_succ, List.setIfInBounds_toArray, List.set_cons_zero, List.set_cons_succ, Nat.zero_add]
      refine wpAnyH_ready (rs := [9]) (by kernel_rfl) (by simp) ?_
      refine (AllReadyH.cons rfl (fun K' hK => ?_) AllReadyH.nil)
      refine step_callw (by rfl) 93 #[.slice (some ⟨w8.heap.size, 0, none⟩) 3 3] ?_ HCON.out ?_
      go_simp
      rintro e wA ⟨vA, rfl, hrA, hbA⟩
      obtain ⟨rec, hrec⟩ : ∃ z, num nx ++ num (cs.length : Int) ++ r = z := ⟨_, rfl⟩
      rw [hrec] at hrA
      have HREC := Lib.hid hrec
      obtain ⟨aA, pA, rfl, _⟩ := hrA.form
      refine ⟨.slice aA rec.length pA, rfl, ?_⟩
      have hwsA := HWS9.out.below hbA
      have HRA := Lib.hid hrA
      have HWSA := Lib.hid hwsA
      have HBA : Hid (Below wr.heap.size wr wA) := HB9.out.trans (hbA.mono HB9.out.size)
      have hq := HQ.out
      have h45 : wA.heap[w.heap.size + 1]? = some (.cells #[.map none, .int .i64 0] 100) := (hwsA.turn.block (w.heap.size + 1) (by omega) (fun e => by omega)).trans HX43.out
      have H45 := Lib.hid h45
      obtain ⟨z0, z1, zf⟩ : wA.cell? ⟨w.heap.size + 1, 0, none⟩ = some (.map none) ∧ wA.cell? ⟨w.heap.size + 1, 1, none⟩ = some (.int .i64 0) ∧ (∀ j, wA.frozen? ⟨w.heap.size + 1, j, none⟩ = false) := ⟨by simp [World.cell?, h45], by simp [World.cell?, h45], fun j => by simp [World.frozen?, h45]⟩
      clear hrA hbA hwsA h45 hrec HCON hq
      refine hK.out _ _ (HSE.out _ _ _ _ _ HWSA.out) (fun hHeld => ?_)
      clear hK K'
      try simp only [Act.put, List.getElem_toArray, List.getElem_cons_zero, List.getElem_cons_succ, List.setIfInBounds_toArray, List.set_cons_zero, List.set_cons_succ, Nat.zero_add]
      refine wpAnyH_ready (rs := [10]) (by kernel_rfl) (by simp) ?_
      refine (AllReadyH.cons rfl (fun K' hK => ?_) AllReadyH.nil)
      go_simp
      have hs : ((wA.setCell ⟨w.heap.size + 1, 0, none⟩ (.map (some mc))).setCell ⟨w.heap.size + 1, 1, none⟩ (.int .i64 nx)).heap[w.heap.size + 1]? = some (objO mc nx) := (dk_set (o := 1) (u := .int .i64 nx) (dk_set (o := 0) (u := .map (some mc)) H45.out)).trans rfl
      have hcs : Chg [w.heap.size + 1] wA ((wA.setCell ⟨w.heap.size + 1, 0, none⟩ (.map (some mc))).setCell ⟨w.heap.size + 1, 1, none⟩ (.int .i64 nx)) := (chg_set _ _ _ _).then1 (chg_set _ _ _ _)
      generalize ((wA.setCell ⟨w.heap.size + 1, 0, none⟩ (.map (some mc))).setCell ⟨w.heap.size + 1, 1, none⟩ (.int .i64 nx)) = wB at hs hcs ⊢
      have hq := HQ.out
      have hgn := HG.out
      have tB : Turn (fun k => k = w.heap.size + 1) wA wB := Turn.of_chg hcs (fun k hk => .inl (by simpa using hk))
      have hmB : OMap wB mc ovx := HWSA.out.map.turn tB (by omega)
      have hvB : OvIn wB (fun j => A j ∨ N ≤ j) ovx := by
        refine (HWSA.out.vals.turn tB (fun k hk e => ?_)).mono (fun k _ hk => hk.imp_right (fun h => h.1))
        rcases hk with hk | hk
        · have := HA.out k hk; omega
        · omega
      have hbB : wB.heap[B7]? = some (objO mc nx) := (tB.block _ (lt_of_block HWSA.out.box) (by omega)).trans HWSA.out.box
      have hrB : ByteRow wB w.heap.size (.slice aA rec.length pA) rec := by
        have h := HRA.out.turn tB (fun k h1 h2 e => by have := HB9.out.size; have := HBR.out.size; have := HWS.out.turn.size; omega)
        exact ⟨h.1, fun k hk => Nat.le_trans (Nat.le_trans HBR.out.size HB9.out.size) (h.2 k hk)⟩
      have hBB : Below w.heap.size w wB := (HBR.out.trans (HBA.out.mono HBR.out.size)).trans (tB.below (Nat.le_trans HBR.out.size HBA.out.size) (fun k hk => by omega))
      have HSB := Lib.hid hs
      have HMB := Lib.hid hmB
      have HVB := Lib.hid hvB
      have HRB := Lib.hid hrB
      have HBB := Lib.hid hBB
      clear hs hcs z0 z1 zf hq hgn tB hmB hvB hrB hBB
      refine hK.out _ _ (⟨by simp [World.cell?, hbB], by simp [World.cell?, hbB]⟩) (fun hHeld => ?_)
      clear hK K'
      try simp only [Act.put, List.getElem_toArray, List.getElem_cons_zero, List.getElem_cons_succ, List.setIfInBounds_toArray, List.set_cons_zero, List.set_cons_succ, Nat.zero_add]
      refine wpAnyH_take (i := 11) (v := ?_) rfl (by kernel_rfl) (by kernel_rfl) (by kernel_rfl) (fun _ _ _ h => h) (Or.inl ⟨by rfl, ?_⟩) (by assumption) ?_
      rotate_left
      focus (intro w hSw; (try dsimp only at hSw); go_simp; try with_reducible rfl)
      try simp only [Act.put, List.getElem_toArray, List.getElem_cons_zero, List.getElem_cons_succ, List.setIfInBounds_toArray, List.set_cons_zero, List.set_cons_succ, Nat.zero_add]
      refine wpAnyH_take (i := 12) (v := ?_) rfl (by kernel_rfl) (by kernel_rfl) (by kernel_rfl) (fun _ _ _ h => h) (Or.inl ⟨by rfl, ?_⟩) (by assumption) ?_
      rotate_left
      focus (intro w hSw; (try dsimp only at hSw); go_simp; try with_reducible rfl)
      try simp only [Act.put, List.getElem_toArray, List.getElem_cons_zero, List.getElem_cons_succ, List.setIfInBounds_toArray, List.set_cons_zero, List.set_cons_succ, Nat.zero_add]
      refine wpAnyH_done (by kernel_rfl) ?_ _
      dsimp only [Exit.then]
      apply_assumption
      go_wp2
      have hsb := HSB.out
      obtain ⟨y0, y1⟩ : wB.cell? ⟨w.heap.size + 1, 0, none⟩ = some (.map (some mc)) ∧ wB.cell? ⟨w.heap.size + 1, 1, none⟩ = some (.int .i64 nx) := ⟨by simp [World.cell?, hsb], by simp [World.cell?, hsb]⟩
      refine bodyPost_ret (v := .tuple #[.agg #[.map (some mc), .int .i64 nx], .slice aA rec.length pA, .int .i64 0]) (by simp [results, Tryz.results44, go_sem, y0, y1]) rfl ?_
      rw [HRE.out]
      have hq := HQ.out
      have hgn := HG.out
      have hrow := HRB.out
      rw [← HREC.out] at hrow
      refine ⟨HBB.out, mc, ovx, _, rfl, by omega, HMB.out, rfl, HVB.out.mono (fun k _ hk => ⟨?_, ?_⟩), ?_, HNX.out⟩
      · rcases hk with hk | hk
        · exact .inl hk
        · exact .inr (by omega)
      · rcases hk with hk | hk
        · have := (hgn.a k hk).1; omega
        · have := hgn.m; omega
      · rw [← HREC.out]
        exact hrow
end Go.Proofs.YtcpgbekcbaelpaaGreatDoor
/- Layer 7: objects are laid down in the other half, and the log is emptied. -/
namespace Go.Proofs.YtcpgbekcbaelpaaGreatDoor
open Go.RowKit Go.Shelf Go.Maps Wr
set_option linter.unusedVariables false
set_option linter.unusedSimpArgs false
attribute [local go_sem] Oper.semAt_some
def TurnEnd (w : World) (b g mb pl : Nat) (ov : OV) (E F : Nat → Prop) (r : Except Int St.Sto × St.Dk) (e : Ending) (w' : World) : Prop :=
  e = .returned (.int .i64 (errOf r.1)) ∧ DkAt w' g r.2 (Gro E w.heap.size) (Gro E w.heap.size) ∧ Turn (fun k => E k ∨ k = b ∨ k = pl) w w' ∧ match r.1 with
    | .ok s' => StIn w' b g mb pl ov s' F
    | .error _ => True
theorem turnOver_spec {s : St.Sto} {o : St.Objs} {next : Int} {D : St.Dk} : s.turnOver o next D = match St.laid s.count s.each o next ⟨s.hd.turn + 1, 1 - s.hd.half, 0, 0, s.log.age + 1⟩ D with
    | (.error e, D') => (.error e, D')
    | (.ok h, D') => match s.log.truncate D' with
      | (.error e, D'') => (.error e, D'')
      | (.ok l, D'') => (.ok { s with objs := o, next := next, hd := h, log := l }, D'') := by
  unfold St.Sto.turnOver St.DM.andThen
  rcases St.laid s.count s.each o next ⟨s.hd.turn + 1, 1 - s.hd.half, 0, 0, s.log.age + 1⟩ D with ⟨r, D'⟩
  cases r with
  | error e => rfl
  | ok h =>
    dsimp only
    rcases s.log.truncate D' with ⟨r2, D''⟩
    cases r2 <;> rfl
theorem laid_waits {count each : Nat} {o : St.Objs} {next : Int} {h h' : St.Hd2} {D D' : St.Dk} (hk : St.laid count each o next h D = (.ok h', D')) : D'.waits.length ≤ D.waits.length + ((St.image o next).length + 1023) / 512 + 1 := by
  unfold St.laid at hk
  obtain ⟨_, d1, h1, hk⟩ := andThen_inv hk
  obtain ⟨_, d2, h2, hk⟩ := andThen_inv hk
  obtain ⟨_, d3, h3, hk⟩ := andThen_inv hk
  obtain ⟨_, d4, h4, hk⟩ := andThen_inv hk
  have e1 := (writesD_waits _ _ _ _ h1).1
  have e2 := (barrier_waits d1).1
  have e3 := congrArg (fun y => y.1) (writeD_inv h3)
  have e4 := (barrier_waits d3).1
  rw [barrierD_inv h2] at e2
  rw [barrierD_inv h4] at e4
  rw [St.full_chunks] at e1
  cases hk
  dsimp only at e2 e3 e4
  have e5 : d3.waits.length ≤ d2.waits.length + 1 := by rw [← e3]; exact write_waits d2 _ _
  omega
def NoZero {α : Type} (m : St.DM α) : Prop := ∀ d e d', m d = (.error e, d') → e ≠ 0
theorem NoZero.andThen {α β : Type} {m : St.DM α} {f : α → St.DM β} (h : NoZero m) (k : ∀ a, NoZero (f a)) : NoZero (m.andThen f) := fun d e d' hh => by
  unfold St.DM.andThen at hh
  rcases hm : m d with ⟨r1, d1⟩
  rw [hm] at hh
  cases r1 with
  | ok a => exact k a d1 e d' hh
  | error y => cases hh; exact h d _ _ hm
theorem NoZero.ret {α : Type} (a : α) : NoZero (St.DM.ret a) := fun d e d' h => by cases h
theorem NoZero.write (i : Int) (b : List UInt8) : NoZero (St.writeD i b) := fun d e d' h => by
  unfold St.writeD at h
  split at h
  · cases h
  · cases h; assumption
theorem NoZero.barrier : NoZero St.barrierD := fun d e d' h => by
  unfold St.barrierD at h
  split at h
  · cases h
  · cases h; assumption
theorem NoZero.writes : ∀ (l : List (List UInt8)) (i : Int), NoZero (St.writesD i l)
  | [], i => NoZero.ret ()
  | b :: l, i => (NoZero.write i b).andThen (fun _ => NoZero.writes l (i + 1))
theorem NoZero.laid (count each : Nat) (o : St.Objs) (next : Int) (h : St.Hd2) : NoZero (St.laid count each o next h) :=
  (NoZero.writes _ _).andThen (fun _ => NoZero.barrier.andThen (fun _ => (NoZero.write _ _).andThen (fun _ => NoZero.barrier.andThen (fun _ => NoZero.ret _))))
theorem NoZero.truncate (l : St.Lg) : NoZero l.truncate :=
  (NoZero.write _ _).andThen (fun _ => NoZero.barrier.andThen (fun _ => NoZero.ret _))
theorem NoZero.turnOver (s : St.Sto) (o : St.Objs) (next : Int) : NoZero (s.turnOver o next) :=
  (NoZero.laid _ _ _ _ _).andThen (fun _ => (NoZero.truncate _).andThen (fun _ => NoZero.ret _))
theorem oper_callw {P : Program} {o : Oper} {a : Act} {w : World} {K : Act → World → Prop} {Q : Exit → Act → World → Prop} {R : Ending → World → Prop} (f : FuncId) (args : Array Value)
    (hrun : (execOp a.eval o).run P w = .ok (.enter f args) w) (hc : Calls P f args w R) (hK : ∀ e w', R e w' → ∃ v, e = .returned v ∧ K (a.put o.dst v) w') : Oper.wp P o a w K Q := by
  unfold Oper.wp
  rw [hrun]
  simp only [Oper.upon]
  refine hc.mono ?_
  intro e w' h
  obtain ⟨v, rfl, hk⟩ := hK e w' h
  exact hk
set_option maxRecDepth 100000 in
set_option maxHeartbeats 8000000 in
theorem turnOver_any' {w : World} {b g mb pl mb2 : Nat} {ov ov2 : OV} {s : St.Sto} {D : St.Dk} {E F A2 : Nat → Prop} {next : Int} (h : StIn w b g mb pl ov s F) (hd : DkAt w g D E E) (hE : ∀ k, E k → k < w.heap.size) (hEb : ¬ E b) (hEp : ¬ E pl) (hEm : ¬ E mb2) (hG : ¬ E 0) (hGF : 0 ≠ b ∧ 0 ≠ pl) (hT : Half w)
    (hm : OMap w mb2 ov2) (hv : OvIn w A2 ov2) (hmb : mb2 ≠ b ∧ mb2 ≠ pl) (hA : ∀ k, A2 k → ¬ E k ∧ k ≠ b ∧ k ≠ pl ∧ k ≠ mb2) {F2 : Nat → Prop} (hF2 : F2 b ∧ F2 pl ∧ F2 mb2 ∧ ∀ k, A2 k → F2 k)
    (hn : 0 ≤ next ∧ next ≤ 4611686018427387904) (hk : ∀ x ∈ ov2, 0 ≤ x.1 ∧ x.1 ≤ 4611686018427387904) (hl : (St.image (ovO ov2) next).length ≤ 1000000) (ht : 0 ≤ s.hd.turn ∧ s.hd.turn + 1 ≤ 4611686018427387904) (hh : 0 ≤ s.hd.half ∧ s.hd.half ≤ 1) (ha : 0 ≤ s.log.age ∧ s.log.age + 1 ≤ 4611686018427387904) (hc : s.count ≤ 1000) (he : s.each ≤ 1000) (hf : s.log.first ≤ 100000) (hw : D.waits.length ≤ 100000) :
    Calls Tryz.prog 48 #[.pointer (some ⟨b, 0, none⟩), .agg #[.map (some mb2), .int .i64 next]] w (TurnEnd w b g mb2 pl ov2 E F2 (s.turnOver (ovO ov2) next D)) := by
  have hb0 : Below w.heap.size w (w.alloc (objO mb2 next)) := (Below.refl _ w).alloc (Nat.le_refl _) _
  have hz0 : (w.alloc (objO mb2 next)).heap.size = w.heap.size + 1 := size_alloc _ _
  have hx0 := heap_alloc_new w (objO mb2 next)
  have H := Lib.hid h
  have HD := Lib.hid hd
  have HE := Lib.hid hE
  have HN : Hid (¬ E b ∧ ¬ E pl ∧ ¬ E mb2 ∧ ¬ E 0) := ⟨hEb, hEp, hEm, hG⟩
  have HGF := Lib.hid hGF
  have HT := Lib.hid hT
  have HM := Lib.hid hm
  have HV := Lib.hid hv
  have HMB := Lib.hid hmb
  have HA := Lib.hid hA
  have HF2 := Lib.hid hF2
  have HNX := Lib.hid hn
  have HK := Lib.hid hk
  have HL := Lib.hid hl
  have HHT := Lib.hid ht
  have HHH := Lib.hid hh
  have HHA := Lib.hid ha
  have HC := Lib.hid hc
  have HEA := Lib.hid he
  have HF := Lib.hid hf
  have HW := Lib.hid hw
  clear h hd hE hEb hEp hEm hG hGF hT hm hv hmb hA hF2 hn hk hl ht hh ha hc he hf hw
  go_enter Tryz.func48, Tryz.ntmps48
  go_upto_region 1 with fail
  generalize w.alloc (objO mb2 next) = W0 at *
  have hst0 := H.out.below hb0
  have HST0 := Lib.hid hst0
  have HB0 := Lib.hid hb0
  have HX0 := Lib.hid hx0
  have HZ0 := Lib.hid hz0
  have HSS : Hid (∀ X, Below W0.heap.size W0 X → X.cell? ⟨w.heap.size, 0, none⟩ = some (.map (some mb2)) ∧ X.cell? ⟨w.heap.size, 1, none⟩ = some (.int .i64 next) ∧ X.cell? ⟨b, 2, none⟩ = some (.int .i64 s.hd.turn) ∧ X.cell? ⟨b, 3, none⟩ = some (.int .i64 s.hd.half) ∧ X.cell? ⟨b, 8, none⟩ = some (.pointer (some ⟨pl, 0, none⟩))) := fun X hX => by
    have h1 := (hX.block _ (lt_of_block HX0.out)).trans HX0.out
    obtain ⟨_, _, c2, c3, _, _, _, _, c8, _⟩ := cells11 ((hX.block _ (lt_of_block HST0.out.blk)).trans HST0.out.blk)
    exact ⟨by simp [World.cell?, h1], by simp [World.cell?, h1], c2, c3, c8⟩
  have w1 : IntKind.i64.wrap (s.hd.turn + 1) = s.hd.turn + 1 := by rw [IntKind.wrap_i64]; have := HHT.out; omega
  have w2 : IntKind.i64.wrap (1 - s.hd.half) = 1 - s.hd.half := by rw [IntKind.wrap_i64]; have := HHH.out; omega
  have w3 : IntKind.i64.wrap (s.log.age + 1) = s.log.age + 1 := by rw [IntKind.wrap_i64]; have := HHA.out; omega
  have HAG : Hid (∀ X, Below W0.heap.size W0 X → Calls Tryz.prog 52 #[.pointer (some ⟨pl, 0, none⟩)] X fun e w' => e = .returned (.int .i64 s.log.age) ∧ X = w') := fun X hX => walAge_any ((hX.block _ (lt_of_block HST0.out.log)).trans HST0.out.log)
  obtain ⟨⟨rl, Dl⟩, hrl⟩ : ∃ y, St.laid s.count s.each (ovO ov2) next ⟨s.hd.turn + 1, 1 - s.hd.half, 0, 0, s.log.age + 1⟩ D = y := ⟨_, rfl⟩
  have HRL := Lib.hid hrl
  have HLD : Hid (∀ X, Below W0.heap.size W0 X → Calls Tryz.prog 68 #[.pointer (some ⟨b, 0, none⟩), .agg #[.map (some mb2), .int .i64 next], hdV ⟨s.hd.turn + 1, 1 - s.hd.half, 0, 0, s.log.age + 1⟩] X (LaidEnd X b g (.map (some mb)) s.next s.hd (.pointer (some ⟨pl, 0, none⟩)) ((2 + s.count : Nat) : Int) (s.each : Int) mb2 next E E (rl, Dl))) := fun X hX => by
    have hbX : Below w.heap.size w X := HB0.out.trans (hX.mono HB0.out.size)
    have hEX : ∀ k, E k → k < X.heap.size := fun k hk => Nat.lt_of_lt_of_le (HE.out k hk) hbX.size
    have hn := HN.out
    rw [← HRL.out]
    exact laid_any (HD.out.below hbX) ((hbX.block _ (lt_of_block H.out.blk)).trans H.out.blk) hEX hEX hn.1 hn.1 hn.2.2.2 (HT.out.below hbX) HGF.out.1 (HM.out.below hbX) (HV.out.turn (M := fun _ => False) (Turn.of_below hbX) (fun _ _ h => h)) HNX.out HK.out HL.out ⟨by have := HHT.out; dsimp only; omega, by have := HHH.out; dsimp only; omega, by have := HHA.out; dsimp only; omega⟩ HC.out HEA.out HW.out
  clear hrl hst0 hb0 hx0 hz0
  have hne := NoZero.laid s.count s.each (ovO ov2) next ⟨s.hd.turn + 1, 1 - s.hd.half, 0, 0, s.log.age + 1⟩ D
  have HSP : Hid (s.turnOver (ovO ov2) next D = _) := turnOver_spec
  cases rl with
  | error er =>
    have hne := hne er Dl HRL.out
    have q1 : (er != 0) = true := by simpa using hne
    have hsp := HSP.out
    rw [HRL.out] at hsp
    have HSP2 := Lib.hid hsp
    clear hne hsp
    refine wp_region_last2L (S := (fun X => X.cell? ⟨w.heap.size, 0, none⟩ = some (.map (some mb2)) ∧ X.cell? ⟨w.heap.size, 1, none⟩ = some (.int .i64 next) ∧ X.cell? ⟨b, 2, none⟩ = some (.int .i64 s.hd.turn) ∧ X.cell? ⟨b, 3, none⟩ = some (.int .i64 s.hd.half) ∧ X.cell? ⟨b, 8, none⟩ = some (.pointer (some ⟨pl, 0, none⟩)))) (by kernel_rfl) (by simp only [but2]; rfl) (by simp only [last1]; rfl) (by simp only [lastOf]; rfl) (by kernel_rfl) (by kernel_rfl) (by kernel_rfl) (by kernel_rfl) ?_ (fun hHeld => ?_)
    focus exact HSS.out _ (Below.refl _ _).drew
    try simp only [List.size_toArray, List.length_cons, List.length_nil]
    refine wpAnyH_take (i := 0) (v := ?_) rfl (by kernel_rfl) (by kernel_rfl) (by kernel_rfl) (fun _ _ _ h => h) (Or.inl ⟨by rfl, ?_⟩) (by assumption) ?_
    rotate_left
    focus (intro w hSw; (try dsimp only at hSw); go_simp; try with_reducible rfl)
    try simp only [Act.put, List.getElem_toArray, List.getElem_cons_zero, List.getElem_cons_succ, List.setIfInBounds_toArray, List.set_cons_zero, List.set_cons_succ, Nat.zero_add]
    refine wpAnyH_take (i := 1) (v := ?_) rfl (by kernel_rfl) (by kernel_rfl) (by kernel_rfl) (fun _ _ _ h => h) (Or.inl ⟨by rfl, ?_⟩) (by assumption) ?_
    rotate_left
    focus (intro w hSw; (try dsimp only at hSw); go_simp; try with_reducible rfl)
    try simp only [Act.put, List.getElem_toArray, List.getElem_cons_zero, List.getElem_cons_succ, List.setIfInBounds_toArray, List.set_cons_zero, List.set_cons_succ, Nat.zero_add]
    refine wpAnyH_take (i := 2) (v := ?_) rfl (by kernel_rfl) (by kernel_rfl) (by kernel_rfl) (fun _ _ _ h => h) (Or.inl ⟨by rfl, ?_⟩) (by assumption) ?_
    rotate_left
    focus (intro w hSw; (try dsimp only at hSw); go_simp; try with_reducible rfl)
    try simp only [Act.put, List.getElem_toArray, List.getElem_cons_zero, List.getElem_cons_succ, List.setIfInBounds_toArray, List.set_cons_zero, List.set_cons_succ, Nat.zero_add]
    refine wpAnyH_take (i := 3) (v := ?_) rfl (by kernel_rfl) (by kernel_rfl) (by kernel_rfl) (fun _ _ _ h => h) (Or.inl ⟨by rfl, ?_⟩) (by assumption) ?_
    rotate_left
    focus (intro w hSw; (try dsimp only at hSw); go_simp; try with_reducible rfl)
    try simp only [Act.put, List.getElem_toArray, List.getElem_cons_zero, List.getElem_cons_succ, List.setIfInBounds_toArray, List.set_cons_zero, List.set_cons_succ, Nat.zero_add]
    refine wpAnyH_take (i := 4) (v := ?_) rfl (by kernel_rfl) (by kernel_rfl) (by kernel_rfl) (fun _ _ _ h => h) (Or.inl ⟨by rfl, ?_⟩) (by assumption) ?_
    rotate_left
    focus (intro w hSw; (try dsimp only at hSw); go_simp; try with_reducible rfl)
    try simp only [Act.put, List.getElem_toArray, List.getElem_cons_zero, List.getElem_cons_succ, List.setIfInBounds_toArray, List.set_cons_zero, List.set_cons_succ, Nat.zero_add]
    refine wpAnyH_take (i := 5) (v := ?_) rfl (by kernel_rfl) (by kernel_rfl) (by kernel_rfl) (fun _ _ _ h => h) (Or.inl ⟨by rfl, ?_⟩) (by assumption) ?_
    rotate_left
    focus (intro w hSw; (try dsimp only at hSw); go_simp; try with_reducible rfl)
    try simp only [Act.put, List.getElem_toArray, List.getElem_cons_zero, List.getElem_cons_succ, List.setIfInBounds_toArray, List.set_cons_zero, List.set_cons_succ, Nat.zero_add]
    refine wpAnyH_take (i := 6) (v := ?_) rfl (by kernel_rfl) (by kernel_rfl) (by kernel_rfl) (fun _ _ _ h => h) (Or.inl ⟨by rfl, ?_⟩) (by assumption) ?_
    rotate_left
    focus (intro w hSw; (try dsimp only at hSw); go_simp; try with_reducible rfl)
    try simp only [Act.put, List.getElem_toArray, List.getElem_cons_zero, List.getElem_cons_succ, List.setIfInBounds_toArray, List.set_cons_zero, List.set_cons_succ, Nat.zero_add]
    refine wpAnyH_take (i := 7) (v := ?_) rfl (by kernel_rfl) (by kernel_rfl) (by kernel_rfl) (fun _ _ _ h => h) (Or.inl ⟨by rfl, ?_⟩) (by assumption) ?_
    rotate_left
    focus (intro w hSw; (try dsimp only at hSw); go_simp; try with_reducible rfl)
    try simp only [Act.put, List.getElem_toArray, List.getElem_cons_zero, List.getElem_cons_succ, List.setIfInBounds_toArray, List.set_cons_zero, List.set_cons_succ, Nat.zero_add]
    refine wpAnyH_take (i := 8) (v := ?_) rfl (by kernel_rfl) (by kernel_rfl) (by kernel_rfl) (fun _ _ _ h => h) (Or.inl ⟨by rfl, ?_⟩) (by assumption) ?_
    rotate_left
    focus (intro w hSw; (try dsimp only at hSw); go_simp; try with_reducible rfl)
    try simp only [Act.put, List.getElem_toArray, List.getElem_cons_zero, List.getElem_cons_succ, List.setIfInBounds_toArray, List.set_cons_zero, List.set_cons_succ, Nat.zero_add]
    refine wpAnyH_take (i := 9) (v := ?_) rfl (by kernel_rfl) (by kernel_rfl) (by kernel_rfl) (fun _ _ _ h => h) (Or.inl ⟨by rfl, ?_⟩) (by assumption) ?_
    rotate_left
    focus (intro w hSw; (try dsimp only at hSw); go_simp; try with_reducible rfl)
    try simp only [Act.put, List.getElem_toArray, List.getElem_cons_zero, List.getElem_cons_succ, List.setIfInBounds_toArray, List.set_cons_zero, List.set_cons_succ, Nat.zero_add]
    refine wpAnyH_take (i := 10) (v := ?_) rfl (by kernel_rfl) (by kernel_rfl) (by kernel_rfl) (fun _ _ _ h => h) (Or.inl ⟨by rfl, ?_⟩) (by assumption) ?_
    rotate_left
    focus (intro w hSw; (try dsimp only at hSw); go_simp; try with_reducible rfl)
    try simp only [Act.put, List.getElem_toArray, List.getElem_cons_zero, List.getElem_cons_succ, List.setIfInBounds_toArray, List.set_cons_zero, List.set_cons_succ, Nat.zero_add]
    refine wpAnyH_take (i := 11) (v := ?_) rfl (by kernel_rfl) (by kernel_rfl) (by kernel_rfl) (fun _ _ _ h => h) (Or.inl ⟨by rfl, ?_⟩) (by assumption) ?_
    rotate_left
    focus (intro w hSw; (try dsimp only at hSw); go_simp; try with_reducible rfl)
    try simp only [Act.put, List.getElem_toArray, List.getElem_cons_zero, List.getElem_cons_succ, List.setIfInBounds_toArray, List.set_cons_zero, List.set_cons_succ, Nat.zero_add]
    refine wpAnyH_take (i := 12) (v := ?_) rfl (by kernel_rfl) (by kernel_rfl) (by kernel_rfl) (fun _ _ _ h => h) (Or.inl ⟨by rfl, ?_⟩) (by assumption) ?_
    rotate_left
    focus (intro w hSw; (try dsimp only at hSw); go_simp; try with_reducible rfl)
    try simp only [Act.put, List.getElem_toArray, List.getElem_cons_zero, List.getElem_cons_succ, List.setIfInBounds_toArray, List.set_cons_zero, List.set_cons_succ, Nat.zero_add]
    refine wpAnyH_take (i := 13) (v := ?_) rfl (by kernel_rfl) (by kernel_rfl) (by kernel_rfl) (fun _ _ _ h => h) (Or.inl ⟨by rfl, ?_⟩) (by assumption) ?_
    rotate_left
    focus (intro w hSw; (try dsimp only at hSw); go_simp; try with_reducible rfl)
    try simp only [Act.put, List.getElem_toArray, List.getElem_cons_zero, List.getElem_cons_succ, List.setIfInBounds_toArray, List.set_cons_zero, List.set_cons_succ, Nat.zero_add]
    refine wpAnyH_take (i := 14) (v := ?_) rfl (by kernel_rfl) (by kernel_rfl) (by kernel_rfl) (fun _ _ _ h => h) (Or.inl ⟨by rfl, ?_⟩) (by assumption) ?_
    rotate_left
    focus (intro w hSw; (try dsimp only at hSw); go_simp; try with_reducible rfl)
    try simp only [Act.put, List.getElem_toArray, List.getElem_cons_zero, List.getElem_cons_succ, List.setIfInBounds_toArray, List.set_cons_zero, List.set_cons_succ, Nat.zero_add]
    refine wpAnyH_take (i := 15) (v := ?_) rfl (by kernel_rfl) (by kernel_rfl) (by kernel_rfl) (fun _ _ _ h => h) (Or.inl ⟨by rfl, ?_⟩) (by assumption) ?_
    rotate_left
    focus (intro w hSw; (try dsimp only at hSw); go_simp; try with_reducible rfl)
    try simp only [Act.put, List.getElem_toArray, List.getElem_cons_zero, List.getElem_cons_succ, List.setIfInBounds_toArray, List.set_cons_zero, List.set_cons_succ, Nat.zero_add]
    refine wpAnyH_take (i := 16) (v := ?_) rfl (by kernel_rfl) (by kernel_rfl) (by kernel_rfl) (fun _ _ _ h => h) (Or.inl ⟨by rfl, ?_⟩) (by assumption) ?_
    rotate_left
    focus (intro w hSw; (try dsimp only at hSw); go_simp; try with_reducible rfl)
    try simp only [Act.put, List.getElem_toArray, List.getElem_cons_zero, List.getElem_cons_succ, List.setIfInBounds_toArray, List.set_cons_zero, List.set_cons_succ, Nat.zero_add]
    refine wpAnyH_take (i := 17) (v := ?_) rfl (by kernel_rfl) (by kernel_rfl) (by kernel_rfl) (fun _ _ _ h => h) (Or.inl ⟨by rfl, ?_⟩) (by assumption) ?_
    rotate_left
    focus (intro w hSw; (try dsimp only at hSw); go_simp; try with_reducible rfl)
    try simp only [Act.put, List.getElem_toArray, List.getElem_cons_zero, List.getElem_cons_succ, List.setIfInBounds_toArray, List.set_cons_zero, List.set_cons_succ, Nat.zero_add]
    refine wpAnyH_ready (rs := [18]) (by kernel_rfl) (by simp) ?_
    refine (AllReadyH.cons rfl (fun K' hK => ?_) AllReadyH.nil)
    refine step_callw (by rfl) 52 #[.pointer (some ⟨pl, 0, none⟩)] ?_ (HAG.out _ (Below.refl _ _).drew) ?_
    go_simp
    rintro e w4 ⟨rfl, rfl⟩
    refine ⟨_, rfl, ?_⟩
    refine hK.out _ _ (hHeld) (fun hHeld => ?_)
    clear hK K'
    try simp only [Act.put, List.getElem_toArray, List.getElem_cons_zero, List.getElem_cons_succ, List.setIfInBounds_toArray, List.set_cons_zero, List.set_cons_succ, Nat.zero_add]
    refine wpAnyH_take (i := 19) (v := ?_) rfl (by kernel_rfl) (by kernel_rfl) (by kernel_rfl) (fun _ _ _ h => h) (Or.inl ⟨by rfl, ?_⟩) (by assumption) ?_
    rotate_left
    focus (intro w hSw; (try dsimp only at hSw); go_simp; try with_reducible rfl)
    try simp only [Act.put, List.getElem_toArray, List.getElem_cons_zero, List.getElem_cons_succ, List.setIfInBounds_toArray, List.set_cons_zero, List.set_cons_succ, Nat.zero_add]
    refine wpAnyH_take (i := 20) (v := ?_) rfl (by kernel_rfl) (by kernel_rfl) (by kernel_rfl) (fun _ _ _ h => h) (Or.inl ⟨by rfl, ?_⟩) (by assumption) ?_
    rotate_left
    focus (intro w hSw; (try dsimp only at hSw); go_simp; try with_reducible rfl)
    try simp only [Act.put, List.getElem_toArray, List.getElem_cons_zero, List.getElem_cons_succ, List.setIfInBounds_toArray, List.set_cons_zero, List.set_cons_succ, Nat.zero_add]
    refine wpAnyH_done (by kernel_rfl) ?_ _
    refine oper_callw 68 #[.pointer (some ⟨b, 0, none⟩), .agg #[.map (some mb2), .int .i64 next], hdV ⟨s.hd.turn + 1, 1 - s.hd.half, 0, 0, s.log.age + 1⟩] ?_ (HLD.out _ (Below.refl _ _).drew) ?_
    go_simp
    rintro e w5 ⟨he, hd5, ht5, hb5⟩
    refine ⟨_, he, ?_⟩
    have HD5 := Lib.hid hd5
    have HT5 := Lib.hid ht5
    have HB5 := Lib.hid hb5
    clear hd5 ht5 hb5 he hHeld
    show Oper.wp _ _ _ _ _ _
    try simp only [Act.put, List.getElem_toArray, List.getElem_cons_zero, List.getElem_cons_succ, List.setIfInBounds_toArray, List.set_cons_zero, List.set_cons_succ, Nat.zero_add]
    go_simp
    dsimp only [errOf]
    (try dsimp only [Exit.then])
    apply_assumption
    go_wp2
    go_ret
    have hsp3 : s.turnOver (ovO ov2) next D = (.error er, Dl) := HSP2.out
    rw [hsp3]
    have hz0 := HZ0.out
    have hz1 : w.heap.size ≤ W0.drew.heap.size := by show _ ≤ W0.heap.size; omega
    refine ⟨rfl, HD5.out.mono (fun k _ hk => hk.imp id (fun e => by omega)) (fun k _ hk => hk.imp id (fun e => by omega)), ((Turn.of_below HB0.out).thenBelow (Below.refl _ _).drew).trans HT5.out (fun k hk => .inl (by rcases hk with hk | hk; exact .inl hk; exact .inr (.inl hk))), trivial⟩
  | ok h' =>
    clear hne
    obtain ⟨⟨rt, Dt⟩, hrt⟩ : ∃ y, s.log.truncate Dl = y := ⟨_, rfl⟩
    have hsp := HSP.out
    rw [HRL.out] at hsp
    dsimp only at hsp
    rw [hrt] at hsp
    have HSP2 := Lib.hid hsp
    have HRT := Lib.hid hrt
    clear hsp hrt
    refine wp_region_last2L (S := (fun X => X.cell? ⟨w.heap.size, 0, none⟩ = some (.map (some mb2)) ∧ X.cell? ⟨w.heap.size, 1, none⟩ = some (.int .i64 next) ∧ X.cell? ⟨b, 2, none⟩ = some (.int .i64 s.hd.turn) ∧ X.cell? ⟨b, 3, none⟩ = some (.int .i64 s.hd.half) ∧ X.cell? ⟨b, 8, none⟩ = some (.pointer (some ⟨pl, 0, none⟩)))) (by kernel_rfl) (by simp only [but2]; rfl) (by simp only [last1]; rfl) (by simp only [lastOf]; rfl) (by kernel_rfl) (by kernel_rfl) (by kernel_rfl) (by kernel_rfl) ?_ (fun hHeld => ?_)
    focus exact HSS.out _ (Below.refl _ _).drew
    try simp only [List.size_toArray, List.length_cons, List.length_nil]
    refine wpAnyH_take (i := 0) (v := ?_) rfl (by kernel_rfl) (by kernel_rfl) (by kernel_rfl) (fun _ _ _ h => h) (Or.inl ⟨by rfl, ?_⟩) (by assumption) ?_
    rotate_left
    focus (intro w hSw; (try dsimp only at hSw); go_simp; try with_reducible rfl)
    try simp only [Act.put, List.getElem_toArray, List.getElem_cons_zero, List.getElem_cons_succ, List.setIfInBounds_toArray, List.set_cons_zero, List.set_cons_succ, Nat.zero_add]
    refine wpAnyH_take (i := 1) (v := ?_) rfl (by kernel_rfl) (by kernel_rfl) (by kernel_rfl) (fun _ _ _ h => h) (Or.inl ⟨by rfl, ?_⟩) (by assumption) ?_
    rotate_left
    focus (intro w hSw; (try dsimp only at hSw); go_simp; try with_reducible rfl)
    try simp only [Act.put, List.getElem_toArray, List.getElem_cons_zero, List.getElem_cons_succ, List.setIfInBounds_toArray, List.set_cons_zero, List.set_cons_succ, Nat.zero_add]
    refine wpAnyH_take (i := 2) (v := ?_) rfl (by kernel_rfl) (by kernel_rfl) (by kernel_rfl) (fun _ _ _ h => h) (Or.inl ⟨by rfl, ?_⟩) (by assumption) ?_
    rotate_left
    focus (intro w hSw; (try dsimp only at hSw); go_simp; try with_reducible rfl)
    try simp only [Act.put, List.getElem_toArray, List.getElem_cons_zero, List.getElem_cons_succ, List.setIfInBounds_toArray, List.set_cons_zero, List.set_cons_succ, Nat.zero_add]
    refine wpAnyH_take (i := 3) (v := ?_) rfl (by kernel_rfl) (by kernel_rfl) (by kernel_rfl) (fun _ _ _ h => h) (Or.inl ⟨by rfl, ?_⟩) (by assumption) ?_
    rotate_left
    focus (intro w hSw; (try dsimp only at hSw); go_simp; try with_reducible rfl)
    try simp only [Act.put, List.getElem_toArray, List.getElem_cons_zero, List.getElem_cons_succ, List.setIfInBounds_toArray, List.set_cons_zero, List.set_cons_succ, Nat.zero_add]
    refine wpAnyH_take (i := 4) (v := ?_) rfl (by kernel_rfl) (by kernel_rfl) (by kernel_rfl) (fun _ _ _ h => h) (Or.inl ⟨by rfl, ?_⟩) (by assumption) ?_
    rotate_left
    focus (intro w hSw; (try dsimp only at hSw); go_simp; try with_reducible rfl)
    try simp only [Act.put, List.getElem_toArray, List.getElem_cons_zero, List.getElem_cons_succ, List.setIfInBounds_toArray, List.set_cons_zero, List.set_cons_succ, Nat.zero_add]
    refine wpAnyH_take (i := 5) (v := ?_) rfl (by kernel_rfl) (by kernel_rfl) (by kernel_rfl) (fun _ _ _ h => h) (Or.inl ⟨by rfl, ?_⟩) (by assumption) ?_
    rotate_left
    focus (intro w hSw; (try dsimp only at hSw); go_simp; try with_reducible rfl)
    try simp only [Act.put, List.getElem_toArray, List.getElem_cons_zero, List.getElem_cons_succ, List.setIfInBounds_toArray, List.set_cons_zero, List.set_cons_succ, Nat.zero_add]
    refine wpAnyH_take (i := 6) (v := ?_) rfl (by kernel_rfl) (by kernel_rfl) (by kernel_rfl) (fun _ _ _ h => h) (Or.inl ⟨by rfl, ?_⟩) (by assumption) ?_
    rotate_left
    focus (intro w hSw; (try dsimp only at hSw); go_simp; try with_reducible rfl)
    try simp only [Act.put, List.getElem_toArray, List.getElem_cons_zero, List.getElem_cons_succ, List.setIfInBounds_toArray, List.set_cons_zero, List.set_cons_succ, Nat.zero_add]
    refine wpAnyH_take (i := 7) (v := ?_) rfl (by kernel_rfl) (by kernel_rfl) (by kernel_rfl) (fun _ _ _ h => h) (Or.inl ⟨by rfl, ?_⟩) (by assumption) ?_
    rotate_left
    focus (intro w hSw; (try dsimp only at hSw); go_simp; try with_reducible rfl)
    try simp only [Act.put, List.getElem_toArray, List.getElem_cons_zero, List.getElem_cons_succ, List.setIfInBounds_toArray, List.set_cons_zero, List.set_cons_succ, Nat.zero_add]
    refine wpAnyH_take (i := 8) (v := ?_) rfl (by kernel_rfl) (by kernel_rfl) (by kernel_rfl) (fun _ _ _ h => h) (Or.inl ⟨by rfl, ?_⟩) (by assumption) ?_
    rotate_left
    focus (intro w hSw; (try dsimp only at hSw); go_simp; try with_reducible rfl)
    try simp only [Act.put, List.getElem_toArray, List.getElem_cons_zero, List.getElem_cons_succ, List.setIfInBounds_toArray, List.set_cons_zero, List.set_cons_succ, Nat.zero_add]
    refine wpAnyH_take (i := 9) (v := ?_) rfl (by kernel_rfl) (by kernel_rfl) (by kernel_rfl) (fun _ _ _ h => h) (Or.inl ⟨by rfl, ?_⟩) (by assumption) ?_
    rotate_left
    focus (intro w hSw; (try dsimp only at hSw); go_simp; try with_reducible rfl)
    try simp only [Act.put, List.getElem_toArray, List.getElem_cons_zero, List.getElem_cons_succ, List.setIfInBounds_toArray, List.set_cons_zero, List.set_cons_succ, Nat.zero_add]
    refine wpAnyH_take (i := 10) (v := ?_) rfl (by kernel_rfl) (by kernel_rfl) (by kernel_rfl) (fun _ _ _ h => h) (Or.inl ⟨by rfl, ?_⟩) (by assumption) ?_
    rotate_left
    focus (intro w hSw; (try dsimp only at hSw); go_simp; try with_reducible rfl)
    try simp only [Act.put, List.getElem_toArray, List.getElem_cons_zero, List.getElem_cons_succ, List.setIfInBounds_toArray, List.set_cons_zero, List.set_cons_succ, Nat.zero_add]
    refine wpAnyH_take (i := 11) (v := ?_) rfl (by kernel_rfl) (by kernel_rfl) (by kernel_rfl) (fun _ _ _ h => h) (Or.inl ⟨by rfl, ?_⟩) (by assumption) ?_
    rotate_left
    focus (intro w hSw; (try dsimp only at hSw); go_simp; try with_reducible rfl)
    try simp only [Act.put, List.getElem_toArray, List.getElem_cons_zero, List.getElem_cons_succ, List.setIfInBounds_toArray, List.set_cons_zero, List.set_cons_succ, Nat.zero_add]
    refine wpAnyH_take (i := 12) (v := ?_) rfl (by kernel_rfl) (by kernel_rfl) (by kernel_rfl) (fun _ _ _ h => h) (Or.inl ⟨by rfl, ?_⟩) (by assumption) ?_
    rotate_left
    focus (intro w hSw; (try dsimp only at hSw); go_simp; try with_reducible rfl)
    try simp only [Act.put, List.getElem_toArray, List.getElem_cons_zero, List.getElem_cons_succ, List.setIfInBounds_toArray, List.set_cons_zero, List.set_cons_succ, Nat.zero_add]
    refine wpAnyH_take (i := 13) (v := ?_) rfl (by kernel_rfl) (by kernel_rfl) (by kernel_rfl) (fun _ _ _ h => h) (Or.inl ⟨by rfl, ?_⟩) (by assumption) ?_
    rotate_left
    focus (intro w hSw; (try dsimp only at hSw); go_simp; try with_reducible rfl)
    try simp only [Act.put, List.getElem_toArray, List.getElem_cons_zero, List.getElem_cons_succ, List.setIfInBounds_toArray, List.set_cons_zero, List.set_cons_succ, Nat.zero_add]
    refine wpAnyH_take (i := 14) (v := ?_) rfl (by kernel_rfl) (by kernel_rfl) (by kernel_rfl) (fun _ _ _ h => h) (Or.inl ⟨by rfl, ?_⟩) (by assumption) ?_
    rotate_left
    focus (intro w hSw; (try dsimp only at hSw); go_simp; try with_reducible rfl)
    try simp only [Act.put, List.getElem_toArray, List.getElem_cons_zero, List.getElem_cons_succ, List.setIfInBounds_toArray, List.set_cons_zero, List.set_cons_succ, Nat.zero_add]
    refine wpAnyH_take (i := 15) (v := ?_) rfl (by kernel_rfl) (by kernel_rfl) (by kernel_rfl) (fun _ _ _ h => h) (Or.inl ⟨by rfl, ?_⟩) (by assumption) ?_
    rotate_left
    focus (intro w hSw; (try dsimp only at hSw); go_simp; try with_reducible rfl)
    try simp only [Act.put, List.getElem_toArray, List.getElem_cons_zero, List.getElem_cons_succ, List.setIfInBounds_toArray, List.set_cons_zero, List.set_cons_succ, Nat.zero_add]
    refine wpAnyH_take (i := 16) (v := ?_) rfl (by kernel_rfl) (by kernel_rfl) (by kernel_rfl) (fun _ _ _ h => h) (Or.inl ⟨by rfl, ?_⟩) (by assumption) ?_
    rotate_left
    focus (intro w hSw; (try dsimp only at hSw); go_simp; try with_reducible rfl)
    try simp only [Act.put, List.getElem_toArray, List.getElem_cons_zero, List.getElem_cons_succ, List.setIfInBounds_toArray, List.set_cons_zero, List.set_cons_succ, Nat.zero_add]
    refine wpAnyH_take (i := 17) (v := ?_) rfl (by kernel_rfl) (by kernel_rfl) (by kernel_rfl) (fun _ _ _ h => h) (Or.inl ⟨by rfl, ?_⟩) (by assumption) ?_
    rotate_left
    focus (intro w hSw; (try dsimp only at hSw); go_simp; try with_reducible rfl)
    try simp only [Act.put, List.getElem_toArray, List.getElem_cons_zero, List.getElem_cons_succ, List.setIfInBounds_toArray, List.set_cons_zero, List.set_cons_succ, Nat.zero_add]
    refine wpAnyH_ready (rs := [18]) (by kernel_rfl) (by simp) ?_
    refine (AllReadyH.cons rfl (fun K' hK => ?_) AllReadyH.nil)
    refine step_callw (by rfl) 52 #[.pointer (some ⟨pl, 0, none⟩)] ?_ (HAG.out _ (Below.refl _ _).drew) ?_
    go_simp
    rintro e w4 ⟨rfl, rfl⟩
    refine ⟨_, rfl, ?_⟩
    refine hK.out _ _ (hHeld) (fun hHeld => ?_)
    clear hK K'
    try simp only [Act.put, List.getElem_toArray, List.getElem_cons_zero, List.getElem_cons_succ, List.setIfInBounds_toArray, List.set_cons_zero, List.set_cons_succ, Nat.zero_add]
    refine wpAnyH_take (i := 19) (v := ?_) rfl (by kernel_rfl) (by kernel_rfl) (by kernel_rfl) (fun _ _ _ h => h) (Or.inl ⟨by rfl, ?_⟩) (by assumption) ?_
    rotate_left
    focus (intro w hSw; (try dsimp only at hSw); go_simp; try with_reducible rfl)
    try simp only [Act.put, List.getElem_toArray, List.getElem_cons_zero, List.getElem_cons_succ, List.setIfInBounds_toArray, List.set_cons_zero, List.set_cons_succ, Nat.zero_add]
    refine wpAnyH_take (i := 20) (v := ?_) rfl (by kernel_rfl) (by kernel_rfl) (by kernel_rfl) (fun _ _ _ h => h) (Or.inl ⟨by rfl, ?_⟩) (by assumption) ?_
    rotate_left
    focus (intro w hSw; (try dsimp only at hSw); go_simp; try with_reducible rfl)
    try simp only [Act.put, List.getElem_toArray, List.getElem_cons_zero, List.getElem_cons_succ, List.setIfInBounds_toArray, List.set_cons_zero, List.set_cons_succ, Nat.zero_add]
    refine wpAnyH_done (by kernel_rfl) ?_ _
    refine oper_callw 68 #[.pointer (some ⟨b, 0, none⟩), .agg #[.map (some mb2), .int .i64 next], hdV ⟨s.hd.turn + 1, 1 - s.hd.half, 0, 0, s.log.age + 1⟩] ?_ (HLD.out _ (Below.refl _ _).drew) ?_
    go_simp
    rintro e w5 ⟨he, hd5, ht5, hb5⟩
    refine ⟨_, he, ?_⟩
    have HD5 := Lib.hid hd5
    have HT5 := Lib.hid ht5
    have HB5 := Lib.hid hb5
    clear hd5 ht5 hb5 he hHeld
    show Oper.wp _ _ _ _ _ _
    try simp only [Act.put, List.getElem_toArray, List.getElem_cons_zero, List.getElem_cons_succ, List.setIfInBounds_toArray, List.set_cons_zero, List.set_cons_succ, Nat.zero_add]
    go_simp
    dsimp only [errOf]
    (try dsimp only [Exit.then])
    apply_assumption
    have hz0 := HZ0.out
    have hz1 : w.heap.size ≤ W0.drew.heap.size := by show _ ≤ W0.heap.size; omega
    have t5 : Turn (fun k => E k ∨ k = b ∨ k = pl) w w5 := ((Turn.of_below HB0.out).thenBelow (Below.refl _ _).drew).trans HT5.out (fun k hk => .inl (by rcases hk with hk | hk; exact .inl hk; exact .inr (.inl hk)))
    have hbl := lt_of_block H.out.blk
    have hpll := lt_of_block H.out.log
    have HB5' : Hid (w5.heap[b]? = some (storeO (.map (some mb2)) next h' g (.pointer (some ⟨pl, 0, none⟩)) ((2 + s.count : Nat) : Int) (s.each : Int))) := HB5.out
    have hp5 : w5.heap[pl]? = some (logO g s.log) := by
      have h1 := (HT5.out.block pl (by omega) (fun e => by rcases e with e | e; exact HN.out.2.1 e; exact H.out.d1 e.symm)).trans (((Below.refl _ W0).drew.block pl (by omega)).trans ((HB0.out.block pl hpll).trans H.out.log))
      exact h1
    have hd5 : DkAt w5 g Dl (Gro E W0.drew.heap.size) (Gro E W0.drew.heap.size) := HD5.out
    have hlt := HT.out.lt
    have hgn : ∀ k, k < w.heap.size → ¬ E k → ¬ Gro E W0.drew.heap.size k := fun k h1 h2 e => by
      rcases e with e | e
      · exact h2 e
      · omega
    have hh5 : Half w5 := HT.out.turn t5 (fun e => by
      rcases e with e | e | e
      · exact HN.out.2.2.2 e
      · exact HGF.out.1 e
      · exact HGF.out.2 e)
    have hwt := laid_waits HRL.out
    have HTR := Lib.hid (walTruncate_any hd5 hp5 (hgn _ hpll HN.out.2.1) (hgn _ hpll HN.out.2.1) (hgn _ hlt HN.out.2.2.2) hh5 HF.out HHA.out (by have := HW.out; have := HL.out; omega))
    rw [HRT.out] at HTR
    have HGN := Lib.hid hgn
    have HT5' := Lib.hid t5
    have HZ1 := Lib.hid hz1
    have HBL := Lib.hid hbl
    have HPLL := Lib.hid hpll
    obtain ⟨_, _, _, _, _, _, _, _, b8, _⟩ := cells11 HB5'.out
    have HSPE : Hid ((∀ er, rt = .error er → s.turnOver (ovO ov2) next D = (.error er, Dt)) ∧ ∀ l, rt = .ok l → s.turnOver (ovO ov2) next D = (.ok { s with objs := ovO ov2, next := next, hd := h', log := l }, Dt)) := by
      have h1 := HSP2.out
      refine ⟨fun er e => ?_, fun l e => ?_⟩
      · rw [e] at h1
        exact h1
      · rw [e] at h1
        exact h1
    clear hz0 hz1 t5 hbl hpll hp5 hd5 hlt hgn hh5 hwt HLD HAG HSS HD5 HT5
    go_wp2_with (go_at_call 53; refine HTR.out.mono ?_; rintro e w6 ⟨rfl, hd6, hp6, ht6⟩; have HD6 := Lib.hid hd6; have HP6 := Lib.hid hp6; have HT6 := Lib.hid ht6; clear hd6 hp6 ht6)
    go_ret
    have hz5 := HT5'.out.size
    have hz1 := HZ1.out
    have ht : Turn (fun k => E k ∨ k = b ∨ k = pl) w w6 := HT5'.out.trans HT6.out (fun k hk => by
      rcases hk with hk | hk
      · rcases hk with hk | hk
        · exact .inl (.inl hk)
        · exact .inr (by omega)
      · exact .inl (.inr (.inr hk)))
    have hgo : ∀ k, Gro (Gro E W0.drew.heap.size) w5.heap.size k → Gro E w.heap.size k := fun k hk => by
      rcases hk with hk | hk
      · rcases hk with hk | hk
        · exact .inl hk
        · exact .inr (by omega)
      · exact .inr (by omega)
    cases rt with
    | error er =>
      rw [HSPE.out.1 er rfl]
      exact ⟨rfl, HD6.out.mono (fun k _ hk => hgo k hk) (fun k _ hk => hgo k hk), ht, trivial⟩
    | ok l =>
      rw [HSPE.out.2 l rfl]
      have hb6 := (HT6.out.block b (lt_of_block HB5'.out) (fun e => by rcases e with e | e; exact HGN.out _ HBL.out HN.out.1 e; exact H.out.d1 e)).trans HB5'.out
      have hf := HF2.out
      refine ⟨rfl, HD6.out.mono (fun k _ hk => hgo k hk) (fun k _ hk => hgo k hk), ht, ⟨hb6, HM.out.turn ht (fun e => ?_), rfl, (HV.out.turn ht (fun k hk e => ?_)).mono (fun k _ hk => ?_), HP6.out, hf.1, hf.2.2.1, hf.2.1, fun e => HMB.out.1 e.symm, H.out.d1, HMB.out.2⟩⟩
      · rcases e with e | e | e
        · exact HN.out.2.2.1 e
        · exact HMB.out.1 e
        · exact HMB.out.2 e
      · have h1 := HA.out k hk
        rcases e with e | e | e
        · exact h1.1 e
        · exact h1.2.1 e
        · exact h1.2.2.1 e
      · have h1 := HA.out k hk
        exact ⟨hf.2.2.2 k hk, h1.2.1, h1.2.2.2, h1.2.2.1⟩
end Go.Proofs.YtcpgbekcbaelpaaGreatDoor
/- Layer 7 in plain words: behind a call that is answered no write waits. No program in sight. -/
namespace Go.Proofs.YtcpgbekcbaelpaaGreatDoor
open Wr
set_option linter.unusedVariables false
set_option linter.unusedSimpArgs false
theorem barrierD_quiet {d d' : St.Dk} {u : Unit} (h : St.barrierD d = (.ok u, d')) : d'.waits = [] := by
  have h1 := barrierD_inv h
  unfold St.Dk.barrier at h1
  split at h1
  · have := congrArg Prod.snd h1
    cases this
  · split at h1
    · rename_i h2
      exact absurd (congrArg Prod.snd h1) h2
    · have h2 := congrArg Prod.fst h1
      dsimp only at h2
      rw [← h2]
theorem truncate_quiet {l l' : St.Lg} {d d' : St.Dk} (h : l.truncate d = (.ok l', d')) : d'.waits = [] := by
  unfold St.Lg.truncate at h
  obtain ⟨_, d1, h1, h⟩ := andThen_inv h
  obtain ⟨_, d2, h2, h⟩ := andThen_inv h
  cases h
  exact barrierD_quiet h2
theorem truncates_quiet : ∀ (k : Nat) (a : Int) (l l' : St.Lg) (d d' : St.Dk), St.truncates k a l d = (.ok l', d') → d.waits = [] → d'.waits = []
  | 0, a, l, l', d, d', h, hq => by
    cases h
    exact hq
  | k + 1, a, l, l', d, d', h, hq => by
    unfold St.truncates at h
    split at h
    · obtain ⟨l1, d1, h1, h⟩ := andThen_inv h
      exact truncates_quiet k a l1 l' d1 d' h (truncate_quiet h1)
    · cases h
      exact hq
theorem open_quiet {dec : List UInt8 → Bool} {count each : Nat} {D D' : St.Dk} {s : St.Sto} (h : St.openT dec count each D = (.ok s, D')) (hq : D.waits = []) : D'.waits = [] := by
  obtain ⟨hd, o, n, l0, rs, l1, k1, k2, k3, k4, k5, k6, k7, k8⟩ := open_ok h
  exact truncates_quiet _ _ _ _ _ _ k3 hq
theorem laid_quiet {count each : Nat} {o : St.Objs} {next : Int} {h h' : St.Hd2} {D D' : St.Dk} (hk : St.laid count each o next h D = (.ok h', D')) : D'.waits = [] := by
  unfold St.laid at hk
  obtain ⟨_, d1, h1, hk⟩ := andThen_inv hk
  obtain ⟨_, d2, h2, hk⟩ := andThen_inv hk
  obtain ⟨_, d3, h3, hk⟩ := andThen_inv hk
  obtain ⟨_, d4, h4, hk⟩ := andThen_inv hk
  cases hk
  exact barrierD_quiet h4
theorem format_quiet {count each : Nat} {D D' : St.Dk} (h : St.format count each D = (.ok (), D')) : D'.waits = [] := by
  obtain ⟨D1, D2, h', k1, k2, k3⟩ := format_inv h
  exact laid_quiet k3
theorem append_quiet {l l' : St.Lg} {b : List UInt8} {D D' : St.Dk} (h : l.append b D = (.ok l', D')) : D'.waits = [] := by
  unfold St.Lg.append at h
  split at h
  · cases h
  · split at h
    · cases h
    · obtain ⟨_, d1, h1, h⟩ := andThen_inv h
      obtain ⟨_, d2, h2, h⟩ := andThen_inv h
      obtain ⟨_, d3, h3, h⟩ := andThen_inv h
      obtain ⟨_, d4, h4, h⟩ := andThen_inv h
      cases h
      exact barrierD_quiet h4
theorem turnOver_quiet {s s' : St.Sto} {o : St.Objs} {next : Int} {D D' : St.Dk} (h : s.turnOver o next D = (.ok s', D')) : D'.waits = [] := by
  unfold St.Sto.turnOver at h
  obtain ⟨hd, d1, h1, h⟩ := andThen_inv h
  obtain ⟨l, d2, h2, h⟩ := andThen_inv h
  cases h
  exact truncate_quiet h2
end Go.Proofs.YtcpgbekcbaelpaaGreatDoor
/- Layer 7: a store that is well, in memory: what Format and Open come to. -/
namespace Go.Proofs.YtcpgbekcbaelpaaGreatDoor
open Go.RowKit Go.Shelf Go.Maps Wr
set_option linter.unusedVariables false
set_option linter.unusedSimpArgs false
structure Sg (w : World) (b g : Nat) (s : St.Sto) (D : St.Dk) (n : Nat) (t : Int) (A : Nat → Prop) : Prop where
  sd : SdAt w b g s D A
  q : D.waits = []
  live : ∃ f, St.Live D n f ∧ St.Good dk s n f t
  n1 : n ≤ 1000
section
variable {w w' : World} {b g n : Nat} {s : St.Sto} {D : St.Dk} {t : Int} {A Q : Nat → Prop}
theorem Sg.turn (h : Sg w b g s D n t A) (ht : Turn Q w w') (hA : ∀ k, A k → ¬ Q k) (hh : ¬ Q 0) : Sg w' b g s D n t A := { h with sd := h.sd.turn ht hA hh }
theorem Sg.below (h : Sg w b g s D n t A) (hb : Below w.heap.size w w') : Sg w' b g s D n t A := { h with sd := h.sd.below hb }
theorem Sg.mono {A' : Nat → Prop} (h : Sg w b g s D n t A) (hA : ∀ k, A k → A' k) : Sg w b g s D n t A' := { h with sd := h.sd.mono hA }
theorem Sg.half (h : Sg w b g s D n t A) : Half w := by
  obtain ⟨E, F, h1, _⟩ := h.sd
  exact h1.half
structure SgF (s : St.Sto) (D : St.Dk) (n : Nat) (t : Int) : Prop where
  off : D.off = false
  left : D.left = -1
  len : D.last.length = n
  ob : St.ObjsOk dk s.objs s.next
  sz : (St.image s.objs s.next).length ≤ 512000
  hd : s.hd.Ok
  lf : s.log.first = 2
  la : s.log.age = s.hd.age
  lc : s.log.count = s.count
  lp : s.log.at' ≤ s.count
  ln : 0 ≤ s.log.next ∧ s.log.next ≤ 1000
  c3 : 3 ≤ s.count
  e1 : 1 ≤ s.each
  geo : 2 + s.count + 2 * s.each ≤ n
  n1 : n ≤ 1000
  turn : s.hd.turn ≤ t
  age : s.hd.age ≤ t
theorem sectorsOf_len : ∀ rs : List (List UInt8), rs.length ≤ St.sectorsOf rs
  | [] => Nat.zero_le _
  | r :: rs => by
    have := sectorsOf_len rs
    rw [List.length_cons]
    simp only [St.sectorsOf, St.need]
    omega
theorem good_facts {f : Nat → List UInt8} (hl : St.Live D n f) (hg : St.Good dk s n f t) (h3 : n ≤ 1000) : SgF s D n t := by
  obtain ⟨o0, n0, rs, hi⟩ := hg.inv
  have h1 := hg.fit
  have h2 := hi.geo
  have h4 := hi.room
  have h5 := sectorsOf_len rs
  exact ⟨hl.off, hl.left, hl.len, hi.obs, by omega, hi.hok, by rw [hi.log], by rw [hi.log], by rw [hi.log], by rw [hi.log]; exact h4, by rw [hi.log]; show (0 : Int) ≤ (rs.length : Int) ∧ (rs.length : Int) ≤ 1000; omega, hi.c3, hi.e1, h2, h3, hg.turn, hg.age⟩
theorem Sg.facts (h : Sg w b g s D n t A) : SgF s D n t := by
  obtain ⟨f, hl, hg⟩ := h.live
  exact good_facts hl hg h.n1
theorem new_live (n : Nat) : St.Live (St.Dk.new n) n (fun _ => St.zeros 512) :=
  ⟨rfl, rfl, List.length_replicate .., fun _ h => (nomatch h), fun i hi => by simp [St.Dk.now, St.Dk.new, List.getD_eq_getElem?_getD, List.getElem?_replicate, hi]⟩
theorem lay_of {n : Nat} {log : Int} {count each : Nat} (h : St.layT n log = some (count, each)) : 3 ≤ count ∧ 1 ≤ each ∧ 2 + count + 2 * each ≤ n := by
  obtain ⟨h1, h2, h3, h4⟩ := lay_pos h
  exact ⟨h1, h2, h4⟩
theorem format_sg {E : Nat → Prop} {log : Int} {count each : Nat} {f : Nat → List UInt8} (h : DkAt w g D E E) (hEh : ¬ E 0) (hT : Half w) (hL : St.Live D n f) (hq : D.waits = []) (hn : n ≤ 1000) (hlay : St.layT n log = some (count, each)) :
    Calls Tryz.prog 23 #[.pointer (some ⟨g, 0, none⟩), .int .i64 log] w fun e w' => e = .returned (.int .i64 0) ∧ Turn E w w' ∧ ∃ D' f', DkAt w' g D' (Gro E w.heap.size) (Gro E w.heap.size) ∧ St.Live D' n f' ∧ D'.waits = [] ∧ St.Good dk (St.sto0 count each) n f' 1 := by
  obtain ⟨h1, h2, h3⟩ := lay_of hlay
  obtain ⟨f', hr, hg⟩ := St.good_format (dec := dk) (n := n) (f := f) h1 h2 h3 (by omega) (by omega)
  obtain ⟨D', hok, hL'⟩ := hr D hL
  refine (format_any h hEh hT (by rw [hq]; simp) (by rw [hL.len]; exact hlay) (by omega) (by omega) hok).mono ?_
  rintro e w' ⟨rfl, ht, hd⟩
  exact ⟨rfl, ht, D', f', hd, hL', format_quiet hok, hg⟩
theorem open_sg {E : Nat → Prop} {log : Int} {f : Nat → List UInt8} (h : DkAt w g D E E) (hEh : ¬ E 0) (hT : Half w) (hL : St.Live D n f) (hq : D.waits = []) (hn : n ≤ 1000) (hg : St.Good dk s n f t) (hlay : St.layT n log = some (s.count, s.each)) :
    Calls Tryz.prog 13 #[.pointer (some ⟨g, 0, none⟩), .int .i64 log] w fun e w' => ∃ b D', e = .returned (.tuple #[.pointer (some ⟨b, 0, none⟩), .int .i64 0]) ∧ Turn E w w' ∧ Sg w' b g s D' n t (Gro E w.heap.size) := by
  obtain ⟨h1, h2, h3⟩ := lay_of hlay
  obtain ⟨D', hok, hL'⟩ := St.good_open hg D hL
  refine (open_any' h hEh hT hL.off (by rw [hq]; simp) (by rw [hL.len]; exact hlay) (by omega) (by omega) hok).mono ?_
  rintro e w' ⟨b, rfl, ht, E', F, hsd, hE', hF⟩
  exact ⟨b, D', rfl, ht, ⟨E', F, hsd, fun k hk => hE' k hk, fun k hk => .inr (hF k hk)⟩, open_quiet hok hq, ⟨f, hL', hg⟩, hn⟩
theorem Sg.opened {log : Int} (h : Sg w b g s D n t A) (hlay : St.layT n log = some (s.count, s.each)) :
    Calls Tryz.prog 13 #[.pointer (some ⟨g, 0, none⟩), .int .i64 log] w fun e w' => ∃ b D', e = .returned (.tuple #[.pointer (some ⟨b, 0, none⟩), .int .i64 0]) ∧ Turn A w w' ∧ Sg w' b g s D' n t (Gro A w.heap.size) := by
  obtain ⟨E, F, hs, hE, hF⟩ := h.sd
  obtain ⟨f, hL, hg⟩ := h.live
  refine (open_sg hs.dk hs.eh hs.half hL h.q h.n1 hg hlay).mono ?_
  rintro e w' ⟨b, D', rfl, ht, hs'⟩
  exact ⟨b, D', rfl, ht.mono hE, hs'.mono (fun k hk => hk.mono hE)⟩
end
end Go.Proofs.YtcpgbekcbaelpaaGreatDoor
/- Layer 7: Checkpoint. -/
namespace Go.Proofs.YtcpgbekcbaelpaaGreatDoor
open Go.RowKit Go.Shelf Go.Maps Wr
set_option linter.unusedVariables false
set_option linter.unusedSimpArgs false
structure StW (w : World) (b g mb pl : Nat) (ov : OV) (s : St.Sto) (D : St.Dk) (E F : Nat → Prop) : Prop where
  st : StIn w b g mb pl ov s F
  dk : DkAt w g D E E
  el : ∀ k, E k → k < w.heap.size
  fl : ∀ k, F k → k < w.heap.size
  ef : ∀ k, E k → ¬ F k
  half : Half w
  eh : ¬ E 0
  fh : ¬ F 0
theorem SdIn.opened {w : World} {b g : Nat} {s : St.Sto} {D : St.Dk} {E F : Nat → Prop} (h : SdIn w b g s D E F) : ∃ mb pl ov, StW w b g mb pl ov s D E F := by
  obtain ⟨mb, pl, ov, h1⟩ := h.st
  exact ⟨mb, pl, ov, h1, h.dk, h.el, h.fl, h.ef, h.half, h.eh, h.fh⟩
theorem StW.sd {w : World} {b g mb pl : Nat} {ov : OV} {s : St.Sto} {D : St.Dk} {E F : Nat → Prop} (h : StW w b g mb pl ov s D E F) : SdIn w b g s D E F := ⟨h.dk, ⟨mb, pl, ov, h.st⟩, h.el, h.fl, h.ef, h.half, h.eh, h.fh⟩
theorem StW.below {w w' : World} {b g mb pl : Nat} {ov : OV} {s : St.Sto} {D : St.Dk} {E F : Nat → Prop} (h : StW w b g mb pl ov s D E F) (hb : Below w.heap.size w w') : StW w' b g mb pl ov s D E F :=
  ⟨h.st.below hb, h.dk.below hb, fun k hk => Nat.lt_of_lt_of_le (h.el k hk) hb.size, fun k hk => Nat.lt_of_lt_of_le (h.fl k hk) hb.size, h.ef, h.half.below hb, h.eh, h.fh⟩
structure StB (s : St.Sto) : Prop where
  n : 0 ≤ s.next ∧ s.next ≤ 4611686018427387904
  k : ∀ x ∈ s.objs, 0 ≤ x.1 ∧ x.1 ≤ 4611686018427387904
  l : (St.image s.objs s.next).length ≤ 1000000
  t : 0 ≤ s.hd.turn ∧ s.hd.turn + 1 ≤ 4611686018427387904
  h : 0 ≤ s.hd.half ∧ s.hd.half ≤ 1
  a : 0 ≤ s.log.age ∧ s.log.age + 1 ≤ 4611686018427387904
  c : s.count ≤ 1000
  e : s.each ≤ 1000
  f : s.log.first ≤ 100000
theorem ovO_ids {ov : OV} {o : St.Objs} {p : Int → Prop} (h : ovO ov = o) (hk : ∀ x ∈ o, p x.1) : ∀ x ∈ ov, p x.1 := fun x hx => hk (x.1, x.2.2) (h ▸ List.mem_map.2 ⟨x, hx, rfl⟩)
set_option maxRecDepth 100000 in
set_option maxHeartbeats 2000000 in
theorem checkpoint_any' {w : World} {b g mb pl : Nat} {ov : OV} {s : St.Sto} {D : St.Dk} {E F : Nat → Prop} (h : StW w b g mb pl ov s D E F) (hb : StB s) (hw : D.waits.length ≤ 100000) :
    Calls Tryz.prog 12 #[.pointer (some ⟨b, 0, none⟩)] w (TurnEnd w b g mb pl ov E F (s.turnOver s.objs s.next D)) := by
  obtain ⟨c0, c1, _⟩ := cells11 h.st.blk
  have hn : ∀ {k}, F k → ¬ E k := fun hf he => h.ef _ he hf
  have ho := h.st.ovo
  have ht := turnOver_any' (A2 := fun k => F k ∧ k ≠ b ∧ k ≠ mb ∧ k ≠ pl) (F2 := F) (next := s.next) (mb2 := mb) (ov2 := ov) h.st h.dk h.el (hn h.st.f0) (hn h.st.f2) (hn h.st.f1) h.eh ⟨fun e => h.fh (e ▸ h.st.f0), fun e => h.fh (e ▸ h.st.f2)⟩ h.half h.st.map h.st.vals ⟨fun e => h.st.d0 e.symm, h.st.d2⟩ (fun k hk => ⟨hn hk.1, hk.2.1, hk.2.2.2, hk.2.2.1⟩) ⟨h.st.f0, h.st.f2, h.st.f1, fun k hk => hk.1⟩ hb.n (ovO_ids (p := fun i => 0 ≤ i ∧ i ≤ 4611686018427387904) ho hb.k) (by rw [ho]; exact hb.l) hb.t hb.h hb.a hb.c hb.e hb.f hw
  rw [ho] at ht
  generalize s.turnOver s.objs s.next D = r at ht ⊢
  have HT := Lib.hid ht
  clear h hb hw ht hn ho
  go_enter Tryz.func12, Tryz.ntmps12
  go_wp2_with (go_at_call 48; refine HT.out.mono ?_; rintro e w1 ⟨rfl, h1, h2, h3⟩; have H1 := Lib.hid h1; have H2 := Lib.hid h2; have H3 := Lib.hid h3; clear h1 h2 h3)
  go_ret
  exact ⟨rfl, H1.out, H2.out, H3.out⟩
theorem SgF.stB {s : St.Sto} {D : St.Dk} {n : Nat} {t : Int} (h : SgF s D n t) (ht : t + 1 ≤ 4611686018427387904) : StB s := by
  have h1 := h.ob.n1
  have h2 := h.ob.n2
  have h3 := h.hd.t1
  have h4 := h.turn
  have h5 := h.hd.a1
  have h6 := h.age
  have h7 := h.la
  have h8 := h.geo
  have h9 := h.n1
  have h10 := h.lf
  have h11 := h.sz
  exact ⟨⟨by omega, by omega⟩, fun x hx => by have := h.ob.each x hx; omega, by omega, ⟨by omega, by omega⟩, ⟨h.hd.f1, h.hd.f2⟩, ⟨by omega, by omega⟩, by omega, by omega, by omega⟩
end Go.Proofs.YtcpgbekcbaelpaaGreatDoor
/- Layer 7 in plain words: what Apply tells of any changes. No program in sight. -/
namespace Go.Proofs.YtcpgbekcbaelpaaGreatDoor
open Wr
set_option linter.unusedVariables false
set_option linter.unusedSimpArgs false
namespace St
def badCh (c : Ch) : Bool := decide (c.1 < 1 ∨ 1099511627776 < c.1)
def Sto.apT (s : Sto) (l : List Ch) : Except Int (Objs × Int × List UInt8) :=
  if l.any badCh = true then .error 1
  else match withT l s.objs s.next [] with
    | .error e => .error e
    | .ok p => if s.room < (image p.1 p.2.1).length ∨ s.count < 2 + need (recOf l p).length then .error 7 else .ok p
theorem apT_arg {s : Sto} {l : List Ch} (h : l.any badCh = true) : s.apT l = .error 1 := by unfold Sto.apT; rw [if_pos h]
theorem apT_err {s : Sto} {l : List Ch} {e : Int} (h : ¬ l.any badCh = true) (h2 : withT l s.objs s.next [] = .error e) : s.apT l = .error e := by unfold Sto.apT; rw [if_neg h, h2]
theorem apT_ok {s : Sto} {l : List Ch} {p : Objs × Int × List UInt8} (h : ¬ l.any badCh = true) (h2 : withT l s.objs s.next [] = .ok p) (h3 : ¬ (s.room < (image p.1 p.2.1).length ∨ s.count < 2 + need (recOf l p).length)) : s.apT l = .ok p := by
  unfold Sto.apT
  rw [if_neg h, h2]
  exact if_neg h3
theorem apT_inv {s : Sto} {l : List Ch} {p : Objs × Int × List UInt8} (h : s.apT l = .ok p) : ¬ l.any badCh = true ∧ withT l s.objs s.next [] = .ok p ∧ (image p.1 p.2.1).length ≤ s.room ∧ 2 + need (recOf l p).length ≤ s.count := by
  unfold Sto.apT at h
  split at h
  · cases h
  · rename_i h1
    split at h
    · cases h
    · rename_i q h2
      split at h
      · cases h
      · rename_i h3
        cases h
        exact ⟨h1, h2, by omega, by omega⟩
def ChBytes (dec : List UInt8 → Bool) (l : List Ch) : Prop := ∀ c ∈ l, ∀ b, c.2 = some (.ok b) → dec b = true ∧ b.length ≤ 16384
theorem chOk_of {dec : List UInt8 → Bool} {l : List Ch} (h : ¬ l.any badCh = true) (hb : ChBytes dec l) : ∀ c ∈ l, ChOk dec c := fun c hc => by
  have h1 : ¬ (c.1 < 1 ∨ 1099511627776 < c.1) := fun e => h (List.any_eq_true.2 ⟨c, hc, decide_eq_true e⟩)
  exact ⟨by omega, by omega, hb c hc⟩
theorem objsBytes_del (id : Int) : ∀ o : Objs, (objsBytes (oDel id o)).length ≤ (objsBytes o).length
  | [] => Nat.le_refl _
  | x :: o => by
    have ih := objsBytes_del id o
    unfold oDel at ih ⊢
    rw [List.filter_cons]
    split
    · simp only [objsBytes, List.length_append]
      omega
    · simp only [objsBytes, List.length_append]
      omega
theorem objsBytes_ins (id : Int) (b : List UInt8) : ∀ o : Objs, (objsBytes (oIns id b o)).length = (objsBytes o).length + (num id).length + (str b).length
  | [] => by simp [oIns, objsBytes]
  | x :: o => by
    have ih := objsBytes_ins id b o
    rw [oIns]
    split
    · simp only [objsBytes, List.length_append]
      omega
    · simp only [objsBytes, List.length_append, ih]
      omega
theorem withT_grow {dec : List UInt8 → Bool} : ∀ (l : List Ch) (o : Objs) (n : Int) (r : List UInt8) (p : Objs × Int × List UInt8), withT l o n r = .ok p → (∀ c ∈ l, ChOk dec c) → (objsBytes p.1).length ≤ (objsBytes o).length + 17000 * l.length ∧ p.2.2.length ≤ r.length + 17000 * l.length
  | [], o, n, r, p, h, _ => by
    rw [withT] at h
    cases h
    simp
  | c :: l, o, n, r, p, h, hc => by
    obtain ⟨c1, c2, c3⟩ := hc c (List.mem_cons_self ..)
    have hc' := fun d hd => hc d (List.mem_cons_of_mem _ hd)
    have l1 := num_len (n := c.1) (by omega) (by omega)
    have l2 := num_len (n := 0) (by decide) (by decide)
    have l3 := num_len (n := 1) (by decide) (by decide)
    rw [withT] at h
    rw [List.length_cons]
    split at h
    · have ih := withT_grow l _ _ _ p h hc'
      have hd := objsBytes_del c.1 o
      simp only [List.length_append] at ih
      omega
    · cases h
    · rename_i b hb
      have ih := withT_grow l _ _ _ p h hc'
      have hbl := (c3 b hb).2
      have l4 := num_len (n := (b.length : Int)) (by omega) (by omega)
      have hd := objsBytes_del c.1 o
      have hi := objsBytes_ins c.1 b (oDel c.1 o)
      have hs : (str b).length ≤ 16400 := by unfold str; rw [List.length_append]; omega
      unfold oPut at ih
      simp only [List.length_append] at ih
      omega
theorem image_le (o : Objs) (n : Int) (hn : 0 ≤ n ∧ n ≤ 4611686018427387904) (hl : o.length ≤ 4611686018427387904) : (image o n).length ≤ (objsBytes o).length + 20 := by
  have l1 := num_len (n := n) (by omega) (by omega)
  have l2 := num_len (n := (o.length : Int)) (by omega) (by omega)
  unfold image
  simp only [List.length_append]
  omega
theorem apply_steps {dec : List UInt8 → Bool} {s : Sto} {n : Nat} {f : Nat → List UInt8} {t : Int} {D : Dk} {l : List Ch} {p : Objs × Int × List UInt8} (g : Good dec s n f t) (hL : Live D n f) (ht : t + 1 ≤ mostAge) (hl : l ≠ []) (hlen : l.length ≤ 1000000) (hb : ChBytes dec l) (hn : n ≤ 30000) (hp : s.apT l = .ok p) :
    ∃ s1 D1 l' D' f1 f', (if s.log.room < (recOf l p).length then s.turnOver s.objs s.next else DM.ret s) D = (.ok s1, D1) ∧ Live D1 n f1 ∧ Good dec s1 n f1 (t + 1) ∧ s1.objs = s.objs ∧ s1.next = s.next ∧ s1.count = s.count ∧ s1.each = s.each ∧ s1.log.append (recOf l p) D1 = (.ok l', D') ∧ Live D' n f' ∧ Good dec { s1 with objs := p.1, next := p.2.1, log := l' } n f' (t + 1) := by
  obtain ⟨h1, h2, h3, h4⟩ := apT_inv hp
  have hgeo := g.inv
  obtain ⟨o0, n0, rs, hi⟩ := hgeo
  have hge := hi.geo
  have hneed : (recOf l p).length ≤ 16777216 := by
    unfold need at h4
    omega
  obtain ⟨s', f', hr, hg', e1, e2, e3, e4⟩ := good_apply g ht hl (chOk_of h1 hb) (by omega) h2 h3 h4 hneed
  obtain ⟨D', hok, hL'⟩ := hr D hL
  unfold Sto.apply at hok
  rw [if_neg hl, if_neg (show ¬ (l.any (fun c => decide (c.1 < 1 ∨ 1099511627776 < c.1)) = true) from h1), h2] at hok
  dsimp only at hok
  rw [show num p.2.1 ++ num (l.length : Int) ++ p.2.2 = recOf l p from rfl, if_neg (by show ¬ (s.room < (image p.1 p.2.1).length ∨ s.count < 2 + need (recOf l p).length); omega)] at hok
  obtain ⟨s1, D1, k1, hok⟩ := andThen_inv hok
  obtain ⟨l', D2, k2, hok⟩ := andThen_inv hok
  cases hok
  by_cases hc : s.log.room < (recOf l p).length
  · obtain ⟨s2, f2, r2, g2, q1, q2, q3, q4⟩ := good_checkpoint g ht
    obtain ⟨D3, k3, L3⟩ := r2 D hL
    have k4 := k1
    rw [if_pos hc] at k4
    have : (Except.ok s2, D3) = (Except.ok s1, D1) := k3.symm.trans k4
    cases this
    exact ⟨s1, D1, l', _, f2, f', k1, L3, g2, q1, q2, q3, q4, k2, hL', hg'⟩
  · have k4 := k1
    rw [if_neg hc] at k4
    cases k4
    exact ⟨s, D, l', _, f, f', k1, hL, ⟨g.inv, g.fit, g.cap, by have := g.turn; omega, by have := g.age; omega⟩, rfl, rfl, rfl, rfl, k2, hL', hg'⟩
end St
theorem asEx_invS {α : Type} {p : α × List UInt8 × Int} {a : α} {r : List UInt8} (h : asEx p = .ok (a, r)) : p = (a, r, 0) := by
  obtain ⟨x, y, z⟩ := p
  unfold asEx at h
  split at h
  · rename_i hz
    simp only at hz
    subst hz
    simp only [Except.ok.injEq, Prod.mk.injEq] at h
    obtain ⟨rfl, rfl⟩ := h
    rfl
  · cases h
theorem rv_fullS {t : VT} (h : t.right 1 = true) (r : List UInt8) : rv 200 (t.enc ++ r) = (t, r, 0) := by
  have := rdVal_full 200 t 1 r h (by omega)
  rw [rv_eq] at this
  exact asEx_invS this
theorem dec_encS {t : VT} (h : t.right 1 = true) (hl : ¬ 16384 < t.enc.length) : dec t.enc = (t, 0) := by
  have := rv_fullS h []
  rw [List.append_nil] at this
  have h2 := dec_ok hl (by rw [this]) (by rw [this]) (by rw [this]; exact h)
  rw [h2, this]
theorem err_zeroS {t : VT} (h : encErr t = 0) : t.right 1 = true ∧ ¬ 16384 < t.enc.length := by
  unfold encErr at h
  split at h
  · rename_i h1
    split at h
    · rename_i h2; exact ⟨h1, by omega⟩
    · omega
  · omega
theorem chOf_bytes (cs : List CG) : St.ChBytes dk (cs.map chOf) := fun c hc b hb => by
  obtain ⟨⟨id, t, gone⟩, h1, rfl⟩ := List.mem_map.1 hc
  unfold chOf at hb
  cases gone with
  | true => cases hb
  | false =>
    dsimp only at hb
    rw [if_neg (by decide)] at hb
    by_cases he : encErr t = 0
    · rw [if_pos he] at hb
      cases hb
      obtain ⟨r1, r2⟩ := err_zeroS he
      rw [(encErr_ok r1 r2).2]
      refine ⟨?_, by omega⟩
      show decide ((dec t.enc).2 = 0) = true
      rw [dec_encS r1 r2]
      rfl
    · rw [if_neg he] at hb
      cases hb
theorem chOf_bad (cs : List CG) : (cs.map chOf).any St.badCh = cs.any (badId 1099511627776) := by
  rw [List.any_map]
  rfl
end Go.Proofs.YtcpgbekcbaelpaaGreatDoor
