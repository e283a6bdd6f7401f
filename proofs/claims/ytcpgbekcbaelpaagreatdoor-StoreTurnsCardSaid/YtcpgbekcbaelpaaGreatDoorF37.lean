/- Texts of the proof, in build order: StAw, StLp, StLw, StFr, StFs. -/
import Derived.Test.YtcpgbekcbaelpaaGreatDoorF36
import Derived.Test.YtcpgbekcbaelpaaGreatDoorF28
import Derived.Test.YtcpgbekcbaelpaaGreatDoorF26
set_option linter.unusedVariables false
set_option linter.unusedSimpArgs false
set_option linter.unusedSectionVars false
/- Layer 7: Apply. -/
namespace Go.Proofs.YtcpgbekcbaelpaaGreatDoor
open Go.RowKit Go.Shelf Go.Maps Wr
set_option linter.unusedVariables false
set_option linter.unusedSimpArgs false
def ApEnd (w : World) (b g pl n : Nat) (t : Int) (E F : Nat → Prop) (s : St.Sto) (r : Except Int (St.Objs × Int × List UInt8)) (e : Ending) (w' : World) : Prop :=
  match r with
  | .error x => e = .returned (.int .i64 x) ∧ x ≠ 0 ∧ Below w.heap.size w w'
  | .ok p => e = .returned (.int .i64 0) ∧ Turn (fun k => E k ∨ k = b ∨ k = pl) w w' ∧ ∃ N s' D' f' mb2 ov2, w.heap.size ≤ N ∧ N ≤ w'.heap.size ∧ DkAt w' g D' (Gro E N) (Gro E N) ∧ StIn w' b g mb2 pl ov2 s' (fun k => F k ∨ (w.heap.size ≤ k ∧ k < N)) ∧ St.Live D' n f' ∧ St.Good dk s' n f' (t + 1) ∧ D'.waits = [] ∧ s'.objs = p.1 ∧ s'.next = p.2.1 ∧ s'.count = s.count ∧ s'.each = s.each
theorem withT_ne : ∀ (cs : List CG) (o : St.Objs) (n : Int) (r : List UInt8) (e : Int), St.withT (cs.map chOf) o n r = .error e → e ≠ 0
  | [], o, n, r, e, h => by cases h
  | (id, t, gone) :: cs, o, n, r, e, h => by
    rw [List.map_cons] at h
    unfold chOf at h
    cases gone with
    | true => exact withT_ne cs _ _ _ e h
    | false =>
      dsimp only at h
      rw [if_neg (by decide)] at h
      by_cases he : encErr t = 0
      · rw [if_pos he] at h
        exact withT_ne cs _ _ _ e h
      · rw [if_neg he] at h
        cases h
        exact he
theorem ap_done {w X Y : World} {b g mb pl mb2 n : Nat} {ov ov2 : OV} {s s1 : St.Sto} {D D' : St.Dk} {E F : Nat → Prop} {t nx : Int} {mv : Value} {p : St.Objs × Int × List UInt8} {l' : St.Lg} {f' : Nat → List UInt8} (h : StW w b g mb pl ov s D E F)
    (hb : Below w.heap.size w X) (ht : Turn (fun k => E k ∨ k = b ∨ k = pl) X Y) (hm : OMap X mb2 ov2) (hmb : w.heap.size ≤ mb2) (hv : OvIn X (fun j => ((F j ∧ j ≠ b ∧ j ≠ mb ∧ j ≠ pl) ∨ w.heap.size ≤ j) ∧ j ≠ mb2) ov2) (ho : ovO ov2 = p.1)
    (hd : DkAt Y g D' (Gro E X.heap.size) (Gro E X.heap.size)) (hblk : Y.heap[b]? = some (storeO mv nx s1.hd g (.pointer (some ⟨pl, 0, none⟩)) ((2 + s1.count : Nat) : Int) (s1.each : Int))) (hpl : Y.heap[pl]? = some (logO g l'))
    (hL : St.Live D' n f') (hg : St.Good dk { s1 with objs := p.1, next := p.2.1, log := l' } n f' (t + 1)) (hq : D'.waits = []) (hc : s1.count = s.count) (he : s1.each = s.each) :
    ApEnd w b g pl n t E F s (.ok p) (.returned (.int .i64 0)) ((Y.setCell ⟨b, 0, none⟩ (.map (some mb2))).setCell ⟨b, 1, none⟩ (.int .i64 p.2.1)) := by
  obtain ⟨h1, h2⟩ := store_obj (y0 := .map (some mb2)) (y1 := p.2.1) hblk
  have t2 : Turn (fun k => k = b) Y ((Y.setCell ⟨b, 0, none⟩ (.map (some mb2))).setCell ⟨b, 1, none⟩ (.int .i64 p.2.1)) := Turn.of_chg h2 (fun k hk => .inl (by simpa using hk))
  have hbl := h.fl _ h.st.f0
  have hpll := h.fl _ h.st.f2
  have hEb : ¬ E b := fun e => h.ef _ e h.st.f0
  have hn : ∀ k, w.heap.size ≤ k → ¬ (E k ∨ k = b ∨ k = pl) := fun k hk e => by
    rcases e with e | e | e
    · have := h.el _ e; omega
    · omega
    · omega
  have hz := hb.size
  have hgb : ∀ k, Gro E X.heap.size k → ¬ k = b := fun k hk e => by
    subst e
    rcases hk with hk | hk
    · exact hEb hk
    · omega
  have hml := hm.lt
  refine ⟨rfl, ?_, X.heap.size, _, D', f', mb2, ov2, hz, Nat.le_trans ht.size t2.size, hd.turn t2 hgb hgb, ?_, hL, hg, hq, rfl, rfl, hc, he⟩
  · exact ((Turn.of_below hb).trans ht (fun k hk => .inl hk)).trans t2 (fun k hk => .inl (.inr (.inl hk)))
  · refine ⟨h1, (hm.turn ht (hn _ hmb)).turn t2 (by omega), ho, ?_, (t2.block _ (lt_of_block hpl) (fun e => h.st.d1 e.symm)).trans hpl, .inl h.st.f0, .inr ⟨hmb, hml⟩, .inl h.st.f2, by omega, h.st.d1, by omega⟩
    have hv2 : OvIn X (fun j => (((F j ∧ j ≠ b ∧ j ≠ mb ∧ j ≠ pl) ∨ w.heap.size ≤ j) ∧ j ≠ mb2) ∧ j < X.heap.size) ov2 := hv.mono (fun k hl hk => ⟨hk, hl⟩)
    refine OvIn.mono ((hv2.turn ht ?_).turn t2 ?_) ?_
    · intro k hk e
      rcases hk.1.1 with hk1 | hk1
      · rcases e with e | e | e
        · exact h.ef _ e hk1.1
        · exact hk1.2.1 e
        · exact hk1.2.2.2 e
      · exact hn k hk1 e
    · intro k hk e
      rcases hk.1.1 with hk1 | hk1
      · exact hk1.2.1 e
      · omega
    · intro k _ hk
      rcases hk.1.1 with hk1 | hk1
      · exact ⟨.inl hk1.1, hk1.2.1, hk.1.2, hk1.2.2.2⟩
      · exact ⟨.inr ⟨hk1, hk.2⟩, by omega, hk.1.2, by omega⟩
theorem ap_append {w X Y : World} {b g mb pl n : Nat} {ov : OV} {s s1 : St.Sto} {D D1 D' : St.Dk} {E F : Nat → Prop} {t : Int} {l' : St.Lg} {v : Value} {rc : List UInt8} (h : StW w b g mb pl ov s D E F)
    (hb : Below w.heap.size w X) (ht : Turn (fun k => E k ∨ k = b ∨ k = pl) X Y) (hd : DkAt Y g D1 (Gro E X.heap.size) (Gro E X.heap.size)) (hp : Y.heap[pl]? = some (logO g s1.log)) (hr : ByteRow X w.heap.size v rc) (sf : SgF s1 D1 n t) (hn : n ≤ 1000) (ht2 : t ≤ 4611686018427387904) (hq : D1.waits = []) (hok : s1.log.append rc D1 = (.ok l', D')) :
    Calls Tryz.prog 47 #[.pointer (some ⟨pl, 0, none⟩), v] Y fun e w' => e = .returned (.int .i64 0) ∧ DkAt w' g D' (Gro E X.heap.size) (Gro E X.heap.size) ∧ w'.heap[pl]? = some (logO g l') ∧ Turn (fun k => E k ∨ k = b ∨ k = pl) X w' ∧ w'.heap[b]? = Y.heap[b]? := by
  have hz := hb.size
  have hzt := ht.size
  have hbl := h.fl _ h.st.f0
  have hpll := h.fl _ h.st.f2
  have hEb : ¬ E b := fun e => h.ef _ e h.st.f0
  have hEp : ¬ E pl := fun e => h.ef _ e h.st.f2
  have hg : ∀ k, k < X.heap.size → ¬ E k → ¬ Gro E X.heap.size k := fun k h1 h2 e => by
    rcases e with e | e
    · exact h2 e
    · omega
  have hn' : ∀ k, w.heap.size ≤ k → ¬ (E k ∨ k = b ∨ k = pl) := fun k hk e => by
    rcases e with e | e | e
    · have := h.el _ e; omega
    · omega
    · omega
  have hlt := h.half.lt
  have hrY : ByteRow Y w.heap.size v rc := ⟨hr.1.turn ht (fun k hk => hn' k (hr.2 k hk)), hr.2⟩
  have hl2 : rc.length ≤ 16777216 := by
    unfold St.Lg.append at hok
    split at hok
    · cases hok
    · omega
  have ho := sf.ob
  have h1 := sf.lf
  have h2 := sf.lc
  have h3 := sf.lp
  have h4 := sf.geo
  have h5 := sf.ln
  have h6 := sf.la
  have h7 := sf.hd.a1
  have h8 := sf.age
  have hma : St.mostAge = 4611686018427387904 := rfl
  have hq2 := walAppend_any hd hp (hg _ (by omega) hEp) (hg _ (by omega) hEp) (hg _ (by omega) h.eh) ((h.half.below hb).turn ht (fun e => by
    rcases e with e | e | e
    · exact h.eh e
    · exact h.fh (e ▸ h.st.f0)
    · exact h.fh (e ▸ h.st.f2))) hrY (fun k hk => ⟨hg k (hr.1.lt hk) (fun e => hn' k (hr.2 k hk) (.inl e)), fun e => hn' k (hr.2 k hk) (.inr (.inr e))⟩) ⟨by omega, by omega, by omega⟩ ⟨by omega, by omega⟩ ⟨by omega, by omega⟩ hl2 (by rw [hq]; simp) ⟨sf.off, sf.left⟩ (by have := sf.len; omega) hok
  rw [hok] at hq2
  refine hq2.mono ?_
  rintro e w' ⟨rfl, hd', hp', ht'⟩
  have hgo : ∀ k, Gro (Gro E X.heap.size) Y.heap.size k → Gro E X.heap.size k := fun k hk => by
    rcases hk with hk | hk
    · exact hk
    · exact .inr (by omega)
  refine ⟨rfl, hd'.mono (fun k _ hk => hgo k hk) (fun k _ hk => hgo k hk), hp', ht.trans ht' (fun k hk => ?_), ht'.block b (by omega) (fun e => ?_)⟩
  · rcases hk with hk | hk
    · rcases hk with hk | hk
      · exact .inl (.inl hk)
      · exact .inr hk
    · exact .inl (.inr (.inr hk))
  · rcases e with e | e
    · exact hg b (by omega) hEb e
    · exact h.st.d1 e
set_option maxRecDepth 100000 in
set_option maxHeartbeats 8000000 in
theorem apply_any {w : World} {b g mb pl n : Nat} {ov : OV} {s : St.Sto} {D : St.Dk} {E F P : Nat → Prop} {t : Int} {v : Value} {cs : List CG} {f : Nat → List UInt8} (h : StW w b g mb pl ov s D E F) (hL : St.Live D n f) (hg : St.Good dk s n f t) (hq : D.waits = []) (hn : n ≤ 1000) (ht : t + 1 ≤ 4611686018427387904) (hc : ChsAt w P v cs) (hP : ∀ k, P k → k < w.heap.size) (h0 : cs ≠ []) (hl : cs.length ≤ 1000) :
    Calls Tryz.prog 11 #[.pointer (some ⟨b, 0, none⟩), v] w (ApEnd w b g pl n t E F s (s.apT (cs.map chOf))) := by
  have hs := good_facts hL hg hn
  have HCP := Lib.hid (fun (p : _) (hp : s.apT (cs.map chOf) = .ok p) => St.apply_steps (n := n) (f := f) hg hL ht (by intro e; exact h0 (List.map_eq_nil_iff.1 e)) (by rw [List.length_map]; omega) (chOf_bytes cs) (by omega) hp)
  obtain ⟨ao, cap, rfl, _⟩ := hc.form
  have hwn := withT_ne cs s.objs s.next []
  have hlm : (cs.map chOf).length = cs.length := List.length_map ..
  have HCK : Hid (∀ X, Below w.heap.size w X → Calls Tryz.prog 43 #[.slice ao cs.length cap, .int .i64 1099511627776] X fun e w' => e = .returned (.int .i64 (if cs.any (badId 1099511627776) = true then 1 else 0)) ∧ Below X.heap.size X w') := fun X hX => checkIds_any (hc.below hX hP) (fun b hb => Nat.lt_of_lt_of_le (hP b hb) hX.size) (by omega) (by rfl)
  have hbo := h.st.ovo
  have hob := hs.ob
  have hol : ov.length ≤ 1000000000 := by
    have h1 := hob.cnt
    rw [← hbo, ovO_len] at h1
    omega
  have HWI : Hid ((∀ c ∈ cs, 1 ≤ c.1 ∧ c.1 ≤ 1099511627776) → ∀ X, Below w.heap.size w X → Calls Tryz.prog 44 #[.agg #[.map (some mb), .int .i64 s.next], .slice ao cs.length cap] X (WithEnd X (fun j => F j ∧ j ≠ b ∧ j ≠ mb ∧ j ≠ pl) cs.length (St.withT (cs.map chOf) s.objs s.next []))) := fun hid X hX => by
    rw [← hbo]
    exact with_any (h.st.map.below hX) (h.st.vals.turn (M := fun _ => False) (Turn.of_below hX) (fun _ _ h => h)) (fun k hk => Nat.lt_of_lt_of_le (h.fl k hk.1) hX.size) ⟨by have := hob.n1; omega, hob.n2⟩ hol (hc.below hX hP) (fun b hb => Nat.lt_of_lt_of_le (hP b hb) hX.size) hl h0 hid
  have HSS : Hid (∀ X, Below w.heap.size w X → X.cell? ⟨b, 0, none⟩ = some (.map (some mb)) ∧ X.cell? ⟨b, 1, none⟩ = some (.int .i64 s.next) ∧ X.cell? ⟨b, 8, none⟩ = some (.pointer (some ⟨pl, 0, none⟩)) ∧ X.cell? ⟨b, 9, none⟩ = some (.int .i64 ((2 + s.count : Nat) : Int))) := fun X hX => by
    obtain ⟨c0, c1, _, _, _, _, _, _, c8, c9, _⟩ := cells11 ((hX.block _ (lt_of_block h.st.blk)).trans h.st.blk)
    exact ⟨c0, c1, c8, c9⟩
  have HBLK : Hid (∀ X, Below w.heap.size w X → X.heap[b]? = some (storeO (.map (some mb)) s.next s.hd g (.pointer (some ⟨pl, 0, none⟩)) ((2 + s.count : Nat) : Int) (s.each : Int)) ∧ X.heap[pl]? = some (logO g s.log)) := fun X hX => ⟨(hX.block _ (lt_of_block h.st.blk)).trans h.st.blk, (hX.block _ (lt_of_block h.st.log)).trans h.st.log⟩
  have HH := Lib.hid h
  have HS := Lib.hid hs
  have HQ := Lib.hid hq
  have HG := Lib.hid hg
  have HL := Lib.hid hL
  have HCL : Hid (cs.length ≤ 1000) := hl
  have HOL := Lib.hid hol
  have HNN : Hid (n ≤ 1000) := hn
  have HTT : Hid (t + 1 ≤ 4611686018427387904) := ht
  obtain ⟨m, hm⟩ : ∃ m, cs.length = m := ⟨_, rfl⟩
  have z0 : m ≠ 0 := by rw [← hm]; intro e; exact h0 (List.length_eq_zero_iff.1 e)
  rw [hm] at HCK HWI HCL hlm ⊢
  have z1 : ¬ ((m : Int) = 0) := by omega
  have z2 : ((m : Int) == 0) = false := by simpa using z0
  obtain ⟨fr, hfr⟩ : ∃ fr : Int, ((2 + s.count : Nat) : Int) = fr := ⟨_, rfl⟩
  rw [hfr] at HSS HBLK
  have HFR := Lib.hid hfr
  obtain ⟨c0, c1, c8, c9⟩ := HSS.out w (Below.refl _ _)
  have hbad0 := chOf_bad cs
  clear hfr hol hob hbo h hL hg hq hc hP h0 hl hm hs
  by_cases hbad : cs.any (badId 1099511627776) = true
  · rw [St.apT_arg (hbad0.trans hbad)]
    rw [hbad] at HCK
    clear hbad0 hbad HCP hwn
    go_enter Tryz.func11, Tryz.ntmps11
    go_wp2_with (go_at_call 43; refine (HCK.out _ (Below.refl _ _)).mono ?_; rintro e w1 ⟨rfl, hb1⟩; have HB1 := Lib.hid hb1; clear hb1)
    go_ret
    exact ⟨rfl, by decide, HB1.out⟩
  · have hbad2 : cs.any (badId 1099511627776) = false := by simpa using hbad
    have HID : Hid (∀ c ∈ cs, 1 ≤ c.1 ∧ c.1 ≤ 1099511627776) := fun c hcm => by
      have h1 : ¬ (c.1 < 1 ∨ 1099511627776 < c.1) := fun e => hbad (List.any_eq_true.2 ⟨c, hcm, decide_eq_true e⟩)
      omega
    rw [hbad2] at HCK
    have hnb : ¬ ((cs.map chOf).any St.badCh = true) := by rw [hbad0]; exact hbad
    have HNB := Lib.hid hnb
    clear hbad0 hbad hbad2 hnb
    cases hw : St.withT (cs.map chOf) s.objs s.next [] with
    | error er =>
      rw [St.apT_err HNB.out hw]
      have hne := hwn er hw
      have HNE := Lib.hid hne
      have q1 : (er != 0) = true := by simpa using hne
      rw [hw] at HWI
      have HWE : Hid (∀ X, Below w.heap.size w X → Calls Tryz.prog 44 #[.agg #[.map (some mb), .int .i64 s.next], .slice ao m cap] X fun e w' => Below X.heap.size X w' ∧ e = .returned (.tuple #[.agg #[.map none, .int .i64 0], .slice none 0 0, .int .i64 er])) := fun X hX => (HWI.out HID.out X hX).mono (fun e w' he => he)
      clear hne hw hwn HWI HCP
      go_enter Tryz.func11, Tryz.ntmps11
      go_wp2_with (first
        | (go_at_call 43; refine (HCK.out _ (Below.refl _ _)).mono ?_; rintro e w1 ⟨rfl, hb1⟩; have HB1 := Lib.hid hb1; clear hb1; obtain ⟨d0, d1, _, _⟩ := HSS.out w1 HB1.out)
        | (go_at_call 44; refine (HWE.out _ HB1.out).mono ?_; rintro e w2 ⟨hb2, rfl⟩; have HB2 : Hid (Below w.heap.size w w2) := HB1.out.trans (hb2.mono HB1.out.size); clear hb2))
      go_ret
      refine ⟨rfl, HNE.out, ?_⟩
      have h1 := HB2.out
      have h2 := HB2.out.alloc HB2.out.size (.cells #[.map none, .int .i64 0] 100)
      exact h2.trans (by first | exact Below.refl _ _ | (refine Turn.below (M := fun k => k = w2.heap.size) ?_ ?_ ?_ <;> skip))
    | ok p =>
      have hne2 := HNB.out
      have hch := St.chOk_of hne2 (chOf_bytes cs)
      obtain ⟨g1, g2⟩ := St.withT_grow (dec := dk) _ _ _ _ _ hw hch
      have hob := HS.out.ob
      obtain ⟨ho1, ho2, ho3⟩ := St.withT_ok (dec := dk) _ _ _ _ _ hw hch hob.sorted hob.each hob.n2
      have hwb := (St.withT_bytes _ _ _ _ _ hw).2.1
      have hsz := HS.out.sz
      have hcnt := St.objsBytes_len p.1
      rw [hlm] at g1 g2
      have hm1 := HCL.out
      have hsb : (St.objsBytes s.objs).length ≤ (St.image s.objs s.next).length := by unfold St.image; rw [List.length_append]; omega
      have hil : (St.image p.1 p.2.1).length ≤ 100000000 := by
        have := St.image_le p.1 p.2.1 ⟨by have := hob.n1; omega, by omega⟩ (by omega)
        omega
      have hrl : (St.recOf (cs.map chOf) p).length ≤ 100000000 := by
        have l1 := num_len (n := p.2.1) (by have := hob.n1; omega) (by omega)
        have l2 := num_len (n := (m : Int)) (by omega) (by omega)
        unfold St.recOf
        rw [hlm]
        simp only [List.length_append, List.length_nil] at g2 ⊢
        omega
      rw [hw] at HWI
      have HWE : Hid (∀ X, Below w.heap.size w X → Calls Tryz.prog 44 #[.agg #[.map (some mb), .int .i64 s.next], .slice ao m cap] X fun e w' => Below w.heap.size w w' ∧ ∃ mb' ov' v', e = .returned (.tuple #[.agg #[.map (some mb'), .int .i64 p.2.1], v', .int .i64 0]) ∧ w.heap.size ≤ mb' ∧ OMap w' mb' ov' ∧ ovO ov' = p.1 ∧ OvIn w' (fun j => ((F j ∧ j ≠ b ∧ j ≠ mb ∧ j ≠ pl) ∨ w.heap.size ≤ j) ∧ j ≠ mb') ov' ∧ ByteRow w' w.heap.size v' (St.recOf (cs.map chOf) p)) := fun X hX => (HWI.out HID.out X hX).mono (fun e w' he => by
        obtain ⟨hb, mb', ov', v', he, k1, k2, k3, k4, k5, k6⟩ := he
        have hz := hX.size
        refine ⟨hX.trans (hb.mono hz), mb', ov', v', he, by omega, k2, k3, k4.mono (fun k _ hk => ⟨hk.1.imp id (fun e => by omega), hk.2⟩), ?_⟩
        have e : St.recOf (cs.map chOf) p = num p.2.1 ++ num (m : Int) ++ p.2.2 := by unfold St.recOf; rw [hlm]
        rw [e]
        exact ⟨k5.1, fun k hk => by have := k5.2 k hk; omega⟩)
      obtain ⟨rc, hrc⟩ : ∃ rc, St.recOf (cs.map chOf) p = rc := ⟨_, rfl⟩
      obtain ⟨img, himg⟩ : ∃ img, St.image p.1 p.2.1 = img := ⟨_, rfl⟩
      have HIDS : Hid (∀ x ∈ p.1, (0 : Int) ≤ x.1 ∧ x.1 ≤ 4611686018427387904) := fun x hx => by have := ho2 x hx; obtain ⟨a1, a2, _⟩ := this; omega
      have HNX : Hid ((0 : Int) ≤ p.2.1 ∧ p.2.1 ≤ 4611686018427387904) := ⟨by have := hob.n1; omega, by omega⟩
      have hcond : s.apT (cs.map chOf) = if s.room < img.length ∨ s.count < 2 + St.need rc.length then .error 7 else .ok p := by
        unfold St.Sto.apT
        rw [if_neg hne2, hw]
        dsimp only
        rw [himg, hrc]
      have HCOND := Lib.hid hcond
      have HRCE := Lib.hid hrc
      have HIME := Lib.hid himg
      rw [hrc] at HWE hrl
      rw [himg] at hil
      have HIL := Lib.hid hil
      have HRL := Lib.hid hrl
      have hce : s.count ≤ 1000 ∧ s.each ≤ 1000 := by have h1 := HS.out.geo; have h2 := HS.out.n1; omega
      have HCE := Lib.hid hce
      have hap := HS.out.lp
      obtain ⟨rl, hrle⟩ : ∃ rl, rc.length = rl := ⟨_, rfl⟩
      obtain ⟨L, hLe⟩ : ∃ L, img.length = L := ⟨_, rfl⟩
      obtain ⟨R, hR⟩ : ∃ R, s.each * 512 = R := ⟨_, rfl⟩
      have hfr := HFR.out
      obtain ⟨x1, hx1⟩ : ∃ x, (rl : Int) + 512 = x := ⟨_, rfl⟩
      obtain ⟨x2, hx2⟩ : ∃ x, x1 - 2 = x := ⟨_, rfl⟩
      obtain ⟨x3, hx3⟩ : ∃ x, x2.tdiv 511 = x := ⟨_, rfl⟩
      obtain ⟨x4, hx4⟩ : ∃ x, 1 + x3 = x := ⟨_, rfl⟩
      obtain ⟨y1, hy1⟩ : ∃ x, fr - 2 = x := ⟨_, rfl⟩
      obtain ⟨y2, hy2⟩ : ∃ x, y1 - 2 = x := ⟨_, rfl⟩
      have hx3' : x3 = x2 / 511 := by rw [← hx3, Int.tdiv_eq_ediv_of_nonneg (by omega)]
      have v1 : IntKind.i64.wrap ((rl : Int) + 512) = x1 := by rw [hx1, IntKind.wrap_i64]; omega
      have v2 : IntKind.i64.wrap (x1 - 2) = x2 := by rw [hx2, IntKind.wrap_i64]; omega
      have v3 : IntKind.i64.wrap (x2.tdiv 511) = x3 := by rw [hx3, IntKind.wrap_i64]; omega
      have v4 : IntKind.i64.wrap (1 + x3) = x4 := by rw [hx4, IntKind.wrap_i64]; omega
      have v5 : IntKind.i64.wrap (fr - 2) = y1 := by rw [hy1, IntKind.wrap_i64]; omega
      have v6 : IntKind.i64.wrap (y1 - 2) = y2 := by rw [hy2, IntKind.wrap_i64]; omega
      have hcd : (s.room < img.length ∨ s.count < 2 + St.need rc.length) ↔ (R < L ∨ y2 < x4) := by
        rw [hrle, hLe]
        unfold St.Sto.room St.need
        rw [hR]
        omega
      have HROOM : Hid (∀ X, Below w.heap.size w X → Calls Tryz.prog 21 #[.pointer (some ⟨b, 0, none⟩)] X fun e w' => e = .returned (.int .i64 (R : Int)) ∧ X = w') := fun X hX => by
        have := room_any' (lv := .pointer (some ⟨pl, 0, none⟩)) (fr := ((2 + s.count : Nat) : Int)) (each := s.each) (by rw [HFR.out]; exact (HBLK.out X hX).1) (by have := HCE.out; omega)
        rw [hR] at this
        exact this
      have HWR : Hid (∀ X, Below w.heap.size w X → Calls Tryz.prog 46 #[.pointer (some ⟨pl, 0, none⟩)] X fun e w' => e = .returned (.int .i64 s.log.room) ∧ Below X.heap.size X w') := fun X hX => walRoom_any (HBLK.out X hX).2 (by have h1 := HS.out.lc; have := HCE.out; omega) (by have := HS.out.lp; have := HCE.out; omega)
      obtain ⟨rm, hrm⟩ : ∃ rm, s.log.room = rm := ⟨_, rfl⟩
      rw [hrm] at HWR
      have HRM := Lib.hid hrm
      have HRLE := Lib.hid hrle
      have HCD := Lib.hid hcd
      obtain ⟨nx', hnx'⟩ : ∃ nx', p.2.1 = nx' := ⟨_, rfl⟩
      rw [hnx'] at HWE HNX
      have HNXE := Lib.hid hnx'
      have HIMG : Hid (∀ X mb' ov', OMap X mb' ov' → ovO ov' = p.1 → OvIn X (fun j => ((F j ∧ j ≠ b ∧ j ≠ mb ∧ j ≠ pl) ∨ w.heap.size ≤ j) ∧ j ≠ mb') ov' → Calls Tryz.prog 45 #[.agg #[.map (some mb'), .int .i64 nx']] X (RowEnd X X.heap.size img)) := fun X mb' ov' k1 k2 k3 => by
        have := image_any (next := nx') k1 k3 HNX.out (ovO_ids (p := fun i => 0 ≤ i ∧ i ≤ 4611686018427387904) k2 HIDS.out) (by rw [k2, ← HNXE.out, HIME.out]; have := HIL.out; omega)
        rw [k2, ← HNXE.out, HIME.out, HNXE.out] at this
        exact this
      clear hw hwn HWI hne2 hch g1 g2 hob ho1 ho2 ho3 hwb hsz hcnt hm1 hsb hil hrl hrc himg hcond hce hap hfr hx1 hx2 hx3 hx3' hx4 hy1 hy2 hR hcd hrm hnx'
      by_cases hfull : R < L ∨ y2 < x4
      · rw [HCOND.out, if_pos (HCD.out.2 hfull)]
        go_enter Tryz.func11, Tryz.ntmps11
        go_upto_region 9 with (first
          | (go_at_call 43; refine (HCK.out _ (Below.refl _ _)).mono ?_; rintro e w1 ⟨rfl, hb1⟩; have HB1 := Lib.hid hb1; clear hb1; obtain ⟨d0, d1, _, _⟩ := HSS.out w1 HB1.out)
          | (go_at_call 44; refine (HWE.out _ HB1.out).mono ?_; rintro e w2 ⟨hb2, mb', ov', v', rfl, h1, h2, h3, h4, h5⟩; obtain ⟨ar, cr, rfl, _⟩ := h5.form; rw [HRLE.out] at h5 ⊢; have HB2 := Lib.hid hb2; have HM2 := Lib.hid h2; have HMB := Lib.hid h1; have HO2 := Lib.hid h3; have HV2 := Lib.hid h4; have HR2 := Lib.hid h5; clear hb2 h1 h2 h3 h4 h5))
        have hx3 := heap_alloc_new w2 (.cells #[.map (some mb'), .int .i64 nx'] 100)
        have hb3 := HB2.out.alloc HB2.out.size (.cells #[.map (some mb'), .int .i64 nx'] 100)
        have hbb := (Below.refl w2.heap.size w2).alloc (Nat.le_refl _) (.cells #[.map (some mb'), .int .i64 nx'] 100)
        have hm3 := HM2.out.below hbb
        have hv3 := HV2.out.turn (M := fun _ => False) (Turn.of_below hbb) (fun _ _ h => h)
        have hr3 := HR2.out.below hbb
        have hz3 := HB2.out.size
        generalize w2.heap.size = N3 at hx3 hz3 ⊢
        generalize w2.alloc (.cells #[.map (some mb'), .int .i64 nx'] 100) = W3 at hx3 hb3 hm3 hv3 hr3 ⊢
        have HX3 := Lib.hid hx3
        have HB3 := Lib.hid hb3
        have HM3 := Lib.hid hm3
        have HV3 := Lib.hid hv3
        have HR3 := Lib.hid hr3
        have HZ3 := Lib.hid hz3
        obtain ⟨n0, n1⟩ : W3.cell? ⟨N3, 0, none⟩ = some (.map (some mb')) ∧ W3.cell? ⟨N3, 1, none⟩ = some (.int .i64 nx') := ⟨by simp [World.cell?, hx3], by simp [World.cell?, hx3]⟩
        clear hx3 hb3 hbb hm3 hv3 hr3 hz3 d0 d1 c0 c1 c8 c9
        by_cases hRL : R < L
        · have hRL2 : (R : Int) < (L : Int) := by omega
          go_wp2_with (first
            | (go_at_call 45; refine (HIMG.out W3 mb' ov' HM3.out HO2.out HV3.out).mono ?_; rintro e w4 ⟨v4, rfl, hr4, hb4⟩; obtain ⟨a4, c4, rfl, _⟩ := hr4.form; rw [hLe]; have HB34 := Lib.hid hb4; have HB4 : Hid (Below w.heap.size w w4) := HB3.out.trans (hb4.mono HB3.out.size); clear hr4 hb4; obtain ⟨_, _, e8, e9⟩ := HSS.out w4 HB4.out)
            | (go_at_call 21; refine (HROOM.out w4 HB4.out).mono ?_; rintro e w5 ⟨rfl, rfl⟩))
          go_ret
          exact ⟨rfl, by decide, HB4.out⟩
        · have hyx := hfull.resolve_left hRL
          have hRL2 : ¬ (R : Int) < (L : Int) := by omega
          go_wp2_with (first
            | (go_at_call 45; refine (HIMG.out W3 mb' ov' HM3.out HO2.out HV3.out).mono ?_; rintro e w4 ⟨v4, rfl, hr4, hb4⟩; obtain ⟨a4, c4, rfl, _⟩ := hr4.form; rw [hLe]; have HB34 := Lib.hid hb4; have HB4 : Hid (Below w.heap.size w w4) := HB3.out.trans (hb4.mono HB3.out.size); clear hr4 hb4; obtain ⟨_, _, e8, e9⟩ := HSS.out w4 HB4.out)
            | (go_at_call 21; refine (HROOM.out w4 HB4.out).mono ?_; rintro e w5 ⟨rfl, rfl⟩))
          go_ret
          exact ⟨rfl, by decide, HB4.out⟩
      · rw [HCOND.out, if_neg (fun e => hfull (HCD.out.1 e))]
        go_enter Tryz.func11, Tryz.ntmps11
        go_upto_region 9 with (first
          | (go_at_call 43; refine (HCK.out _ (Below.refl _ _)).mono ?_; rintro e w1 ⟨rfl, hb1⟩; have HB1 := Lib.hid hb1; clear hb1; obtain ⟨d0, d1, _, _⟩ := HSS.out w1 HB1.out)
          | (go_at_call 44; refine (HWE.out _ HB1.out).mono ?_; rintro e w2 ⟨hb2, mb', ov', v', rfl, h1, h2, h3, h4, h5⟩; obtain ⟨ar, cr, rfl, _⟩ := h5.form; rw [HRLE.out] at h5 ⊢; have HB2 := Lib.hid hb2; have HM2 := Lib.hid h2; have HMB := Lib.hid h1; have HO2 := Lib.hid h3; have HV2 := Lib.hid h4; have HR2 := Lib.hid h5; clear hb2 h1 h2 h3 h4 h5))
        have hx3 := heap_alloc_new w2 (.cells #[.map (some mb'), .int .i64 nx'] 100)
        have hb3 := HB2.out.alloc HB2.out.size (.cells #[.map (some mb'), .int .i64 nx'] 100)
        have hbb := (Below.refl w2.heap.size w2).alloc (Nat.le_refl _) (.cells #[.map (some mb'), .int .i64 nx'] 100)
        have hm3 := HM2.out.below hbb
        have hv3 := HV2.out.turn (M := fun _ => False) (Turn.of_below hbb) (fun _ _ h => h)
        have hr3 := HR2.out.below hbb
        have hz3 := HB2.out.size
        generalize w2.heap.size = N3 at hx3 hz3 ⊢
        generalize w2.alloc (.cells #[.map (some mb'), .int .i64 nx'] 100) = W3 at hx3 hb3 hm3 hv3 hr3 ⊢
        have HX3 := Lib.hid hx3
        have HB3 := Lib.hid hb3
        have HM3 := Lib.hid hm3
        have HV3 := Lib.hid hv3
        have HR3 := Lib.hid hr3
        have HZ3 := Lib.hid hz3
        obtain ⟨n0, n1⟩ : W3.cell? ⟨N3, 0, none⟩ = some (.map (some mb')) ∧ W3.cell? ⟨N3, 1, none⟩ = some (.int .i64 nx') := ⟨by simp [World.cell?, hx3], by simp [World.cell?, hx3]⟩
        clear hx3 hb3 hbb hm3 hv3 hr3 hz3 d0 d1 c0 c1 c8 c9
        have hRL : ¬ R < L := fun e => hfull (.inl e)
        have hyx : ¬ y2 < x4 := fun e => hfull (.inr e)
        have hRL2 : ¬ (R : Int) < (L : Int) := by omega
        obtain ⟨s1, D1, l', D', f1, f', k1, L1, g1, q1, q2, q3, q4, k2, L2, g2⟩ := HCP.out p (HCOND.out.trans (if_neg (fun e => hfull (HCD.out.1 e))))
        rw [HRCE.out, HRLE.out, HRM.out] at k1
        rw [HRCE.out] at k2
        have SF1 := Lib.hid (good_facts L1 g1 HNN.out)
        have HK2 := Lib.hid k2
        have HG2 := Lib.hid g2
        have HL2 := Lib.hid L2
        have HQ34 : Hid (s1.count = s.count ∧ s1.each = s.each) := ⟨q3, q4⟩
        clear hfull L1 g1 q1 q2 q3 q4 k2 L2 g2
        by_cases hroom : rm < (rl : Int)
        · rw [if_pos hroom] at k1
          have hq1 := turnOver_quiet k1
          have HQ1 := Lib.hid hq1
          have HCK2 : Hid (∀ X, Below w.heap.size w X → Calls Tryz.prog 12 #[.pointer (some ⟨b, 0, none⟩)] X fun e w' => e = .returned (.int .i64 0) ∧ DkAt w' g D1 (Gro E X.heap.size) (Gro E X.heap.size) ∧ Turn (fun k => E k ∨ k = b ∨ k = pl) X w' ∧ StIn w' b g mb pl ov s1 F) := fun X hX => by
            have := checkpoint_any' (HH.out.below hX) (HS.out.stB HTT.out) (by rw [HQ.out]; simp)
            rw [k1] at this
            exact this
          clear k1 hq1
          go_wp2_with (first
            | (go_at_call 45; refine (HIMG.out W3 mb' ov' HM3.out HO2.out HV3.out).mono ?_; rintro e w4 ⟨v4, rfl, hr4, hb4⟩; obtain ⟨a4, c4, rfl, _⟩ := hr4.form; rw [hLe]; have HB34 := Lib.hid hb4; have HB4 : Hid (Below w.heap.size w w4) := HB3.out.trans (hb4.mono HB3.out.size); clear hr4 hb4; obtain ⟨_, _, e8, e9⟩ := HSS.out w4 HB4.out)
            | (go_at_call 21; refine (HROOM.out w4 HB4.out).mono ?_; rintro e w5 ⟨rfl, rfl⟩)
            | (go_at_call 46; refine (HWR.out w4 HB4.out).mono ?_; rintro e w6 ⟨rfl, hb6⟩; have HB46 := Lib.hid hb6; have HB6 : Hid (Below w.heap.size w w6) := HB4.out.trans (hb6.mono HB4.out.size); clear hb6)
            | (go_at_call 12; refine (HCK2.out w6 HB6.out).mono ?_; rintro e w7 ⟨rfl, hd7, ht7, hs7⟩; have HD7 := Lib.hid hd7; have HT7 := Lib.hid ht7; have HS7 := Lib.hid hs7; obtain ⟨_, _, _, _, _, _, _, _, g8, _⟩ := cells11 hs7.blk; clear hd7 ht7 hs7)
            | (go_at_call 47; go_loud (have hr6 : ByteRow w6 w.heap.size (.slice ar rl cr) rc := (HR3.out.below HB34.out).below HB46.out; have hq := ap_append HH.out HB6.out HT7.out HD7.out HS7.out.log hr6 SF1.out HNN.out HTT.out HQ1.out HK2.out; (with_reducible refine hq.mono ?_); clear hq hr6; rintro e w8 ⟨rfl, hd8, hp8, ht8, hb8⟩; have HD8 := Lib.hid hd8; have HP8 := Lib.hid hp8; have HT8 := Lib.hid ht8; have HBK8 := Lib.hid (hb8.trans HS7.out.blk); have hx6 := (HB46.out.block N3 (Nat.lt_of_lt_of_le (lt_of_block HX3.out) HB34.out.size)).trans ((HB34.out.block N3 (lt_of_block HX3.out)).trans HX3.out); have hx8 := (HT8.out.block N3 (lt_of_block hx6) (fun e => by have h1 := HZ3.out; rcases e with e | e | e; (have := HH.out.el _ e; omega); (have := HH.out.fl _ HH.out.st.f0; omega); (have := HH.out.fl _ HH.out.st.f2; omega))).trans hx6; obtain ⟨o0, o1⟩ : w8.cell? ⟨N3, 0, none⟩ = some (.map (some mb')) ∧ w8.cell? ⟨N3, 1, none⟩ = some (.int .i64 nx') := ⟨(by simp [World.cell?, hx8]), (by simp [World.cell?, hx8])⟩; obtain ⟨u0, u1, _, _, _, _, _, _, _, _, _, uf⟩ := cells11 HBK8.out; clear hd8 hp8 ht8 hb8 hx6 hx8)))
          go_ret
          have hm6 := (HM3.out.below HB34.out).below HB46.out
          have hv6 := (HV3.out.turn (M := fun _ => False) (Turn.of_below HB34.out) (fun _ _ h => h)).turn (M := fun _ => False) (Turn.of_below HB46.out) (fun _ _ h => h)
          rw [← HNXE.out]
          exact ap_done HH.out HB6.out HT8.out hm6 HMB.out hv6 HO2.out HD8.out HBK8.out HP8.out HL2.out HG2.out (append_quiet HK2.out) HQ34.out.1 HQ34.out.2
        · rw [if_neg hroom] at k1
          have hk : s1 = s ∧ D1 = D := by cases k1; exact ⟨rfl, rfl⟩
          obtain ⟨hk1, hk2⟩ := hk
          subst hk1 hk2
          clear k1
          go_wp2_with (first
            | (go_at_call 45; refine (HIMG.out W3 mb' ov' HM3.out HO2.out HV3.out).mono ?_; rintro e w4 ⟨v4, rfl, hr4, hb4⟩; obtain ⟨a4, c4, rfl, _⟩ := hr4.form; rw [hLe]; have HB34 := Lib.hid hb4; have HB4 : Hid (Below w.heap.size w w4) := HB3.out.trans (hb4.mono HB3.out.size); clear hr4 hb4; obtain ⟨_, _, e8, e9⟩ := HSS.out w4 HB4.out)
            | (go_at_call 21; refine (HROOM.out w4 HB4.out).mono ?_; rintro e w5 ⟨rfl, rfl⟩)
            | (go_at_call 46; refine (HWR.out w4 HB4.out).mono ?_; rintro e w6 ⟨rfl, hb6⟩; have HB46 := Lib.hid hb6; have HB6 : Hid (Below w.heap.size w w6) := HB4.out.trans (hb6.mono HB4.out.size); clear hb6; obtain ⟨_, _, g8, _⟩ := HSS.out w6 HB6.out)
            | (go_at_call 47; go_loud (have hr6 : ByteRow w6 w.heap.size (.slice ar rl cr) rc := (HR3.out.below HB34.out).below HB46.out; have hq := ap_append HH.out HB6.out (Turn.refl _ w6) ((HH.out.dk.below HB6.out).gro _) (HBLK.out w6 HB6.out).2 hr6 SF1.out HNN.out HTT.out HQ.out HK2.out; (with_reducible refine hq.mono ?_); clear hq hr6; rintro e w8 ⟨rfl, hd8, hp8, ht8, hb8⟩; have HD8 := Lib.hid hd8; have HP8 := Lib.hid hp8; have HT8 := Lib.hid ht8; have HBK8 := Lib.hid (hb8.trans (HBLK.out w6 HB6.out).1); have hx6 := (HB46.out.block N3 (Nat.lt_of_lt_of_le (lt_of_block HX3.out) HB34.out.size)).trans ((HB34.out.block N3 (lt_of_block HX3.out)).trans HX3.out); have hx8 := (HT8.out.block N3 (lt_of_block hx6) (fun e => by have h1 := HZ3.out; rcases e with e | e | e; (have := HH.out.el _ e; omega); (have := HH.out.fl _ HH.out.st.f0; omega); (have := HH.out.fl _ HH.out.st.f2; omega))).trans hx6; obtain ⟨o0, o1⟩ : w8.cell? ⟨N3, 0, none⟩ = some (.map (some mb')) ∧ w8.cell? ⟨N3, 1, none⟩ = some (.int .i64 nx') := ⟨(by simp [World.cell?, hx8]), (by simp [World.cell?, hx8])⟩; obtain ⟨u0, u1, _, _, _, _, _, _, _, _, _, uf⟩ := cells11 HBK8.out; clear hd8 hp8 ht8 hb8 hx6 hx8)))
          go_ret
          have hm6 := (HM3.out.below HB34.out).below HB46.out
          have hv6 := (HV3.out.turn (M := fun _ => False) (Turn.of_below HB34.out) (fun _ _ h => h)).turn (M := fun _ => False) (Turn.of_below HB46.out) (fun _ _ h => h)
          rw [← HNXE.out]
          have hbk := HBK8.out
          rw [← HFR.out] at hbk
          exact ap_done HH.out HB6.out HT8.out hm6 HMB.out hv6 HO2.out HD8.out hbk HP8.out HL2.out HG2.out (append_quiet HK2.out) rfl rfl
end Go.Proofs.YtcpgbekcbaelpaaGreatDoor
/- Laws of layer 7 in plain words: one object that comes and goes. No program in sight. -/
namespace Go.Proofs.YtcpgbekcbaelpaaGreatDoor
open Wr
set_option linter.unusedVariables false
set_option linter.unusedSimpArgs false
def nv (x : Int) : VT := .node 0 x ⟨#[]⟩ []
theorem nv_ok {x : Int} (h1 : 0 ≤ x) (h2 : x ≤ 1099511627776) : encErr (nv x) = 0 ∧ (encBytes (nv x)).length ≤ 40 := by
  have h1' : (nv x).right 1 = true := by
    simp [nv, VT.right_node, VT.rights_cons, VT.rights_nil, fitsB, emptyB]
    refine ⟨?_, rfl⟩
    exact (wr_of_in x (by omega) (by omega)).symm
  have := num_len (n := x) (by omega) (by omega)
  have h3 : (nv x).enc.length ≤ 40 := by
    simp [nv, VT.enc, VT.encs, topOf, str]
    have := num_len (n := 0) (by decide) (by decide)
    omega
  have h4 := encErr_ok h1' (by omega)
  exact ⟨h4.1, by rw [h4.2]; exact h3⟩
theorem one_put {s : St.Sto} {id x : Int} (ho : s.objs = []) (hc : 4 ≤ s.count) (he : 1 ≤ s.each) (hn : 1 ≤ s.next ∧ s.next ≤ 2199023255552) (hid : 1 ≤ id ∧ id ≤ 1099511627776) (hx : 0 ≤ x ∧ x ≤ 1099511627776) :
    s.apT [chOf (id, nv x, false)] = .ok ([(id, encBytes (nv x))], max s.next (id + 1), [] ++ num id ++ (num 1 ++ str (encBytes (nv x)))) := by
  obtain ⟨k1, k2⟩ := nv_ok hx.1 hx.2
  have l1 := num_len (n := id) (by omega) (by omega)
  have l2 := num_len (n := 1) (by decide) (by decide)
  have l3 := num_len (n := ((encBytes (nv x)).length : Int)) (by omega) (by omega)
  have l4 := num_len (n := max s.next (id + 1)) (by omega) (by omega)
  have l5 : (str (encBytes (nv x))).length ≤ 60 := by unfold str; rw [List.length_append]; omega
  refine St.apT_ok ?_ ?_ ?_
  · simp [chOf, St.badCh]
    omega
  · simp [chOf, k1, St.withT, ho, St.oPut, St.oDel, St.oIns]
  · have i1 : (St.image [(id, encBytes (nv x))] (max s.next (id + 1))).length ≤ 200 := by
      simp [St.image, St.objsBytes]
      omega
    have i2 : (St.recOf [chOf (id, nv x, false)] ([(id, encBytes (nv x))], max s.next (id + 1), [] ++ num id ++ (num 1 ++ str (encBytes (nv x))))).length ≤ 200 := by
      simp [St.recOf]
      omega
    unfold St.need St.Sto.room
    dsimp only at i1 i2 ⊢
    omega
theorem one_gone {s : St.Sto} {id : Int} {b : List UInt8} {t : VT} (ho : s.objs = [(id, b)]) (hc : 4 ≤ s.count) (he : 1 ≤ s.each) (hn : 1 ≤ s.next ∧ s.next ≤ 2199023255552) (hid : 1 ≤ id ∧ id ≤ 1099511627776) :
    s.apT [chOf (id, t, true)] = .ok ([], max s.next (id + 1), [] ++ num id ++ num 0) := by
  have l1 := num_len (n := id) (by omega) (by omega)
  have l2 := num_len (n := 1) (by decide) (by decide)
  have l3 := num_len (n := 0) (by decide) (by decide)
  have l4 := num_len (n := max s.next (id + 1)) (by omega) (by omega)
  refine St.apT_ok ?_ ?_ ?_
  · simp [chOf, St.badCh]
    omega
  · simp [chOf, St.withT, ho, St.oDel]
  · have i1 : (St.image [] (max s.next (id + 1))).length ≤ 200 := by
      simp [St.image, St.objsBytes]
      omega
    have i2 : (St.recOf [chOf (id, t, true)] ([], max s.next (id + 1), [] ++ num id ++ num 0)).length ≤ 200 := by
      simp [St.recOf]
      omega
    unfold St.need St.Sto.room
    dsimp only at i1 i2 ⊢
    omega
theorem one_put' {s : St.Sto} {id x : Int} (ho : s.objs = []) (hc : 4 ≤ s.count) (he : 1 ≤ s.each) (hn : 1 ≤ s.next ∧ s.next ≤ 2199023255552) (hid : 1 ≤ id ∧ id ≤ 1099511627776) (hx : 0 ≤ x ∧ x ≤ 1099511627776) :
    ∃ p b, s.apT ([(id, nv x, false)].map chOf) = .ok p ∧ p.1 = [(id, b)] ∧ p.2.1 = max s.next (id + 1) := ⟨_, _, one_put ho hc he hn hid hx, rfl, rfl⟩
theorem one_gone' {s : St.Sto} {id : Int} {b : List UInt8} {t : VT} (ho : s.objs = [(id, b)]) (hc : 4 ≤ s.count) (he : 1 ≤ s.each) (hn : 1 ≤ s.next ∧ s.next ≤ 2199023255552) (hid : 1 ≤ id ∧ id ≤ 1099511627776) :
    ∃ p, s.apT ([(id, t, true)].map chOf) = .ok p ∧ p.1 = [] ∧ p.2.1 = max s.next (id + 1) := ⟨_, one_gone ho hc he hn hid, rfl, rfl⟩
end Go.Proofs.YtcpgbekcbaelpaaGreatDoor
/- Layer 7: a store that is well, in memory: Apply and Checkpoint; the laws' fresh store. -/
namespace Go.Proofs.YtcpgbekcbaelpaaGreatDoor
open Go.RowKit Go.Shelf Go.Maps Wr
set_option linter.unusedVariables false
set_option linter.unusedSimpArgs false
section
variable {w w' : World} {b g n : Nat} {s : St.Sto} {D : St.Dk} {t : Int} {A Q : Nat → Prop}
def SgAp (w : World) (b g n : Nat) (t : Int) (A : Nat → Prop) (s : St.Sto) (r : Except Int (St.Objs × Int × List UInt8)) (e : Ending) (w' : World) : Prop := match r with
  | .error x => e = .returned (.int .i64 x) ∧ x ≠ 0 ∧ Below w.heap.size w w'
  | .ok p => e = .returned (.int .i64 0) ∧ Turn A w w' ∧ ∃ s' D', Sg w' b g s' D' n (t + 1) (Gro A w.heap.size) ∧ s'.objs = p.1 ∧ s'.next = p.2.1 ∧ s'.count = s.count ∧ s'.each = s.each
theorem Sg.apply {P : Nat → Prop} {v : Value} {cs : List CG} (h : Sg w b g s D n t A) (ht : t + 1 ≤ 4611686018427387904) (hc : ChsAt w P v cs) (hP : ∀ k, P k → k < w.heap.size) (h0 : cs ≠ []) (hl : cs.length ≤ 1000) :
    Calls Tryz.prog 11 #[.pointer (some ⟨b, 0, none⟩), v] w (SgAp w b g n t A s (s.apT (cs.map chOf))) := by
  obtain ⟨E, F, hs, hE, hF⟩ := h.sd
  obtain ⟨f, hL, hg⟩ := h.live
  obtain ⟨mb, pl, ov, hw⟩ := hs.opened
  refine (apply_any hw hL hg h.q h.n1 ht hc hP h0 hl).mono ?_
  intro e w' he
  unfold ApEnd at he
  unfold SgAp
  cases hr : s.apT (cs.map chOf) with
  | error x => rw [hr] at he; exact he
  | ok p =>
    rw [hr] at he
    obtain ⟨rfl, ht1, N, s', D', f', mb2, ov2, n1, n2, hd, hst, hL', hg', hq', e1, e2, e3, e4⟩ := he
    have tA : Turn A w w' := ht1.mono (fun k hk => by
      rcases hk with hk | hk | hk
      · exact hE k hk
      · exact hF k (hk ▸ hw.st.f0)
      · exact hF k (hk ▸ hw.st.f2))
    have hh := hs.half.lt
    have hz := tA.size
    refine ⟨rfl, tA, s', D', ⟨⟨fun k => (E k ∨ N ≤ k) ∧ k < w'.heap.size, fun k => F k ∨ (w.heap.size ≤ k ∧ k < N), ⟨hd.mono (fun k hk h => ⟨h, hk⟩) (fun k hk h => ⟨h, hk⟩), ⟨mb2, pl, ov2, hst⟩, fun k hk => hk.2, ?_, ?_, hs.half.turn ht1 ?_, ?_, ?_⟩, ?_, ?_⟩, hq', ⟨f', hL', hg'⟩, h.n1⟩, e1, e2, e3, e4⟩
    · intro k hk
      rcases hk with hk | hk
      · have := hs.fl k hk; omega
      · omega
    · intro k hk hf
      rcases hk.1 with hk1 | hk1
      · rcases hf with hf | hf
        · exact hs.ef k hk1 hf
        · have := hs.el k hk1; omega
      · rcases hf with hf | hf
        · have := hs.fl k hf; omega
        · omega
    · intro e
      rcases e with e | e | e
      · exact hs.eh e
      · exact hs.fh (e ▸ hw.st.f0)
      · exact hs.fh (e ▸ hw.st.f2)
    · intro e
      rcases e.1 with e | e
      · exact hs.eh e
      · omega
    · intro e
      rcases e with e | e
      · exact hs.fh e
      · omega
    · intro k hk
      rcases hk.1 with hk | hk
      · exact .inl (hE k hk)
      · exact .inr (by omega)
    · intro k hk
      rcases hk with hk | hk
      · exact .inl (hF k hk)
      · exact .inr hk.1
theorem Sg.checkpoint (h : Sg w b g s D n t A) (ht : t + 1 ≤ 4611686018427387904) :
    Calls Tryz.prog 12 #[.pointer (some ⟨b, 0, none⟩)] w fun e w' => e = .returned (.int .i64 0) ∧ Turn A w w' ∧ ∃ s' D', Sg w' b g s' D' n (t + 1) (Gro A w.heap.size) ∧ s'.objs = s.objs ∧ s'.next = s.next ∧ s'.count = s.count ∧ s'.each = s.each := by
  have hfc := h.facts
  obtain ⟨E, F, hs, hE, hF⟩ := h.sd
  obtain ⟨f, hL, hg⟩ := h.live
  obtain ⟨mb, pl, ov, hw⟩ := hs.opened
  obtain ⟨s', f', hr, hg', e1, e2, e3, e4⟩ := St.good_checkpoint hg ht
  obtain ⟨D', hok, hL'⟩ := hr D hL
  have hq' := turnOver_quiet hok
  refine (checkpoint_any' hw (hfc.stB ht) (by rw [h.q]; simp)).mono ?_
  intro e w' he
  rw [show s.turnOver s.objs s.next D = (.ok s', D') from hok] at he
  obtain ⟨rfl, hd, ht1, hst⟩ := he
  dsimp only at hd hst
  have tA : Turn A w w' := ht1.mono (fun k hk => by
    rcases hk with hk | hk | hk
    · exact hE k hk
    · exact hF k (hk ▸ hw.st.f0)
    · exact hF k (hk ▸ hw.st.f2))
  have hh := hs.half.lt
  have hz := tA.size
  refine ⟨rfl, tA, s', D', ⟨⟨fun k => (E k ∨ w.heap.size ≤ k) ∧ k < w'.heap.size, F, ⟨hd.mono (fun k hk h => ⟨h, hk⟩) (fun k hk h => ⟨h, hk⟩), ⟨mb, pl, ov, hst⟩, fun k hk => hk.2, fun k hk => Nat.lt_of_lt_of_le (hs.fl k hk) hz, ?_, hs.half.turn ht1 ?_, ?_, hs.fh⟩, ?_, fun k hk => .inl (hF k hk)⟩, hq', ⟨f', hL', hg'⟩, h.n1⟩, e1, e2, e3, e4⟩
  · intro k hk hf
    rcases hk.1 with hk1 | hk1
    · exact hs.ef k hk1 hf
    · have := hs.fl k hf; omega
  · intro e
    rcases e with e | e | e
    · exact hs.eh e
    · exact hs.fh (e ▸ hw.st.f0)
    · exact hs.fh (e ▸ hw.st.f2)
  · intro e
    rcases e.1 with e | e
    · exact hs.eh e
    · omega
  · intro k hk
    rcases hk.1 with hk | hk
    · exact .inl (hE k hk)
    · exact .inr hk
theorem Sg.next (h : Sg w b g s D n t A) : Calls Tryz.prog 14 #[.pointer (some ⟨b, 0, none⟩)] w fun e w' => e = .returned (.int .i64 s.next) ∧ w = w' := by
  obtain ⟨E, F, hs, _⟩ := h.sd
  obtain ⟨mb, pl, ov, hw⟩ := hs.opened
  exact next_any hw.st
theorem Sg.room (h : Sg w b g s D n t A) : Calls Tryz.prog 21 #[.pointer (some ⟨b, 0, none⟩)] w fun e w' => e = .returned (.int .i64 ((s.each * 512 : Nat) : Int)) ∧ w = w' := by
  have hf := h.facts
  obtain ⟨E, F, hs, _⟩ := h.sd
  obtain ⟨mb, pl, ov, hw⟩ := hs.opened
  exact room_any' hw.st.blk (by have := hf.geo; have := hf.n1; omega)
theorem Sg.size (h : Sg w b g s D n t A) : Calls Tryz.prog 20 #[.pointer (some ⟨b, 0, none⟩)] w fun e w' => e = .returned (.int .i64 ((St.image s.objs s.next).length : Int)) ∧ Below w.heap.size w w' := by
  have hf := h.facts
  obtain ⟨E, F, hs, _⟩ := h.sd
  obtain ⟨mb, pl, ov, hw⟩ := hs.opened
  have h1 := hf.ob.n1
  have h2 := hf.ob.n2
  exact size_any hw.st ⟨by omega, by omega⟩ (ovO_ids (p := fun i => 0 ≤ i ∧ i ≤ 4611686018427387904) hw.st.ovo (fun x hx => by have := hf.ob.each x hx; omega)) (by have := hf.sz; omega)
theorem Sg.ids (h : Sg w b g s D n t A) : Calls Tryz.prog 15 #[.pointer (some ⟨b, 0, none⟩)] w fun e w' => ∃ v, e = .returned v ∧ Row w' 3 v (s.objs.map fun x => Value.int .i64 x.1) ∧ (∀ k, v.ownBlock = some k → w.heap.size ≤ k) ∧ Below w.heap.size w w' := by
  have hf := h.facts
  obtain ⟨E, F, hs, _⟩ := h.sd
  obtain ⟨mb, pl, ov, hw⟩ := hs.opened
  exact ids_any hw.st (by have h1 := hf.ob.cnt; rw [← hw.st.ovo, ovO_len] at h1; omega)
theorem Sg.get (h : Sg w b g s D n t A) (id : Int) (hid : (Lit.int .i64 id).wf = true) : Calls Tryz.prog 41 #[.pointer (some ⟨b, 0, none⟩), .int .i64 id] w (GetEnd w (St.oGet s.objs id)) := by
  have hf := h.facts
  obtain ⟨E, F, hs, _⟩ := h.sd
  obtain ⟨mb, pl, ov, hw⟩ := hs.opened
  exact get_any hw.st (fun x hx => by have := (hf.ob.each (x.1, x.2.2) (hw.st.ovo ▸ List.mem_map.2 ⟨x, hx, rfl⟩)).2.2.2; dsimp only at this; omega) id hid
theorem Sg.put {id x : Int} {v : Value} {P : Nat → Prop} (h : Sg w b g s D n t A) (ht : t + 1 ≤ 4611686018427387904) (ho : s.objs = []) (hc : 4 ≤ s.count) (hid : 1 ≤ id ∧ id ≤ 1099511627776) (hx : 0 ≤ x ∧ x ≤ 1099511627776) (hcs : ChsAt w P v [(id, nv x, false)]) (hP : ∀ k, P k → k < w.heap.size) :
    Calls Tryz.prog 11 #[.pointer (some ⟨b, 0, none⟩), v] w fun e w' => e = .returned (.int .i64 0) ∧ Turn A w w' ∧ ∃ s' D' o, Sg w' b g s' D' n (t + 1) (Gro A w.heap.size) ∧ s'.objs = [(id, o)] ∧ s'.next = max s.next (id + 1) ∧ s'.count = s.count ∧ s'.each = s.each := by
  have hf := h.facts
  obtain ⟨p, o, hp, hp1, hp2⟩ := one_put' (s := s) ho hc hf.e1 ⟨hf.ob.n1, hf.ob.n2⟩ hid hx
  refine (h.apply ht hcs hP (by simp) (by simp)).mono ?_
  intro e w' he
  rw [hp] at he
  obtain ⟨rfl, h1, s', D', h2, e1, e2, e3, e4⟩ := he
  exact ⟨rfl, h1, s', D', o, h2, e1.trans hp1, e2.trans hp2, e3, e4⟩
theorem Sg.gone {id : Int} {u : VT} {o : List UInt8} {v : Value} {P : Nat → Prop} (h : Sg w b g s D n t A) (ht : t + 1 ≤ 4611686018427387904) (ho : s.objs = [(id, o)]) (hc : 4 ≤ s.count) (hid : 1 ≤ id ∧ id ≤ 1099511627776) (hcs : ChsAt w P v [(id, u, true)]) (hP : ∀ k, P k → k < w.heap.size) :
    Calls Tryz.prog 11 #[.pointer (some ⟨b, 0, none⟩), v] w fun e w' => e = .returned (.int .i64 0) ∧ Turn A w w' ∧ ∃ s' D', Sg w' b g s' D' n (t + 1) (Gro A w.heap.size) ∧ s'.objs = [] ∧ s'.next = max s.next (id + 1) ∧ s'.count = s.count ∧ s'.each = s.each := by
  have hf := h.facts
  obtain ⟨p, hp, hp1, hp2⟩ := one_gone' (s := s) (t := u) ho hc hf.e1 ⟨hf.ob.n1, hf.ob.n2⟩ hid
  refine (h.apply ht hcs hP (by simp) (by simp)).mono ?_
  intro e w' he
  rw [hp] at he
  obtain ⟨rfl, h1, s', D', h2, e1, e2, e3, e4⟩ := he
  exact ⟨rfl, h1, s', D', h2, e1.trans hp1, e2.trans hp2, e3, e4⟩
end
end Go.Proofs.YtcpgbekcbaelpaaGreatDoor
/- The laws of layer 7: a store on a new disk; one object that comes and goes. -/
namespace Go.Proofs.YtcpgbekcbaelpaaGreatDoor
open Go.RowKit Go.Shelf Go.Maps Wr
set_option linter.unusedVariables false
set_option linter.unusedSimpArgs false
theorem lay_40 : St.layT 40 10 = some (10, 14) := by decide
set_option maxRecDepth 100000 in
set_option maxHeartbeats 4000000 in
theorem fresh_any {w : World} (hT : Half w) :
    Calls Tryz.prog 9 #[] w fun e w' => ∃ g b s D, e = .returned (.tuple #[.pointer (some ⟨g, 0, none⟩), .pointer (some ⟨b, 0, none⟩), .bool true]) ∧ Below w.heap.size w w' ∧ Sg w' b g s D 40 1 (fun k => w.heap.size ≤ k) ∧ s.objs = [] ∧ s.next = 1 ∧ s.count = 10 ∧ s.each = 14 := by
  have hlay := lay_40
  have hN : Calls Tryz.prog 22 #[.int .i64 40] w fun e w' => ∃ g, e = .returned (.tuple #[.pointer (some ⟨g, 0, none⟩), .int .i64 0]) ∧ w.heap.size ≤ g ∧ DkAt w' g (St.Dk.new 40) (fun k => w.heap.size ≤ k) (fun _ => False) ∧ Below w.heap.size w w' := dkNew_any 40 (by omega) (by omega) w
  have HN := Lib.hid hN
  have HT := Lib.hid hT
  have hh := hT.lt
  have HH : Hid (¬ (fun k => w.heap.size ≤ k) 0) := Lib.hid (by dsimp only; omega)
  have HLAY := Lib.hid hlay
  clear hN hT hh hlay
  go_enter Tryz.func9, Tryz.ntmps9
  go_wp2_with (first
    | (go_at_call 22; refine HN.out.mono ?_; rintro e w1 ⟨g, rfl, hg, hd, hb⟩; have HD1 : Hid (DkAt w1 g (St.Dk.new 40) (fun k => w.heap.size ≤ k) (fun k => w.heap.size ≤ k)) := hd.mono (fun _ _ h => h) (fun _ _ h => h.elim); have HB1 := Lib.hid hb; clear hd hb hg)
    | (go_at_call 23; go_loud (have hq := format_sg (n := 40) (log := 10) (count := 10) (each := 14) HD1.out HH.out (HT.out.below HB1.out) (new_live 40) rfl (by omega) HLAY.out; (with_reducible refine hq.mono ?_); clear hq; rintro e w2 ⟨rfl, ht, D1, f1, hd, hL, hq, hg⟩; have HD2 : Hid (DkAt w2 g D1 (fun k => w.heap.size ≤ k) (fun k => w.heap.size ≤ k)) := hd.mono (fun k _ h => by rcases h with h | h; exact h; have := HB1.out.size; show _ ≤ _; omega) (fun k _ h => by rcases h with h | h; exact h; have := HB1.out.size; show _ ≤ _; omega); have HT2 := Lib.hid ht; have HL2 := Lib.hid hL; have HQ2 := Lib.hid hq; have HG2 := Lib.hid hg; clear ht hd hL hq hg))
    | (go_at_call 13; go_loud (have hq := open_sg (log := 10) HD2.out HH.out ((HT.out.below HB1.out).turn HT2.out HH.out) HL2.out HQ2.out (by omega) HG2.out HLAY.out; (with_reducible refine hq.mono ?_); clear hq; rintro e w3 ⟨b, D2, rfl, ht, hs⟩; have HT3 := Lib.hid ht; have HS3 := Lib.hid hs; clear ht hs)))
  refine bodyPost_ret (v := .tuple #[.pointer (some ⟨g, 0, none⟩), .pointer (some ⟨b, 0, none⟩), .bool true]) (by simp [results, Tryz.results9, go_sem]) rfl ?_
  have hz1 := HB1.out.size
  have hz2 := HT2.out.size
  refine ⟨g, b, St.sto0 10 14, D2, rfl, (HB1.out.trans (HT2.out.below hz1 (fun _ h => h))).trans (HT3.out.below (by omega) (fun _ h => h)), HS3.out.mono (fun k hk => by rcases hk with hk | hk; exact hk; show _ ≤ _; omega), rfl, rfl, rfl, rfl⟩
end Go.Proofs.YtcpgbekcbaelpaaGreatDoor
/- The laws of layer 7: an object that comes and goes. -/
namespace Go.Proofs.YtcpgbekcbaelpaaGreatDoor
open Go.RowKit Go.Shelf Go.Maps Wr
set_option linter.unusedVariables false
set_option linter.unusedSimpArgs false
theorem chs_one (w : World) (id x : Int) (gone : Bool) (hid : (Lit.int .i64 id).wf = true) (hx : (Lit.int .i64 x).wf = true) : ChsAt (w.alloc (.cells #[.int .i64 id, .int .i64 0, .int .i64 x, .string ⟨#[]⟩, .slice none 0 0, .bool gone] 35)) (fun b => b < w.heap.size + 1) (.slice (some ⟨w.heap.size, 0, none⟩) 1 1) [(id, nv x, gone)] := by
  refine ⟨_, 1, rfl, Nat.le_refl _, by unfold maxLen; omega, (fun h => by cases h), fun j c hj => ?_⟩
  cases j with
  | zero =>
    cases hj
    exact ⟨w.heap.size, 0, rfl, by omega, .int .i64 0, .int .i64 x, .string ⟨#[]⟩, .slice none 0 0, by simp, by simp, by simp, by simp, by simp, by simp, leaf_is _ _ 0 x ⟨#[]⟩ (by decide) hx (sz_max _ (by decide)), hid⟩
  | succ j => cases hj
set_option maxRecDepth 100000 in
set_option maxHeartbeats 4000000 in
theorem stores_any {w : World} (hT : Half w) : Calls Tryz.prog 10 #[] w fun e w' => e = .returned (.bool true) ∧ Below w.heap.size w w' := by
  have HT := Lib.hid hT
  clear hT
  go_enter Tryz.func10, Tryz.ntmps10
  go_upto_region 4 with (first
    | (go_at_call 9; refine (fresh_any HT.out).mono ?_; rintro e w1 ⟨g, b, s, D, rfl, hb, hs, e1, e2, e3, e4⟩; have HB1 := Lib.hid hb; have HS1 := Lib.hid hs; have HE1 : Hid (s.objs = [] ∧ s.next = 1 ∧ s.count = 10 ∧ s.each = 14) := ⟨e1, e2, e3, e4⟩; clear hb hs e1 e2 e3 e4)
    | (go_at_call 11; have hq := Sg.put (id := 1) (x := 5) (HS1.out.below ((Below.refl _ w1).alloc (Nat.le_refl _) _)) (by omega) HE1.out.1 (by rw [HE1.out.2.2.1]; omega) (by omega) (by omega) (chs_one w1 1 5 false (by decide) (by decide)) (fun k hk => by simpa using hk); (with_reducible refine hq.mono ?_); clear hq; rintro e w2 ⟨rfl, ht, s2, D2, o2, hs, e1, e2, e3, e4⟩; have HT2 := Lib.hid ht; have HS2 := Lib.hid hs; have HE2 : Hid (s2.objs = [(1, o2)] ∧ s2.next = 2 ∧ s2.count = 10 ∧ s2.each = 14) := ⟨e1, by rw [e2, HE1.out.2.1]; rfl, e3.trans HE1.out.2.2.1, e4.trans HE1.out.2.2.2⟩; clear ht hs e1 e2 e3 e4)
    | (go_at_call 11; go_loud (have hq := Sg.gone (id := 1) (HS2.out.below ((Below.refl _ w2).alloc (Nat.le_refl _) _)) (by omega) HE2.out.1 (by rw [HE2.out.2.2.1]; omega) (by omega) (chs_one w2 1 0 true (by decide) (by decide)) (fun k hk => by simpa using hk); (with_reducible refine hq.mono ?_); clear hq; rintro e w3 ⟨rfl, ht, s3, D3, hs, e1, e2, e3, e4⟩; have HT3 := Lib.hid ht; have HS3 := Lib.hid hs; have HE3 : Hid (s3.objs = [] ∧ s3.next = 2 ∧ s3.count = 10 ∧ s3.each = 14) := ⟨e1, by rw [e2, HE2.out.2.1]; rfl, e3.trans HE2.out.2.2.1, e4.trans HE2.out.2.2.2⟩; clear ht hs e1 e2 e3 e4)))
  go_wp2_with (first
    | (go_at_call 13; go_loud (have hq := HS3.out.opened (log := 10) (by rw [HE3.out.2.2.1, HE3.out.2.2.2]; exact lay_40); (with_reducible refine hq.mono ?_); clear hq; rintro e w4 ⟨b4, D4, rfl, ht, hs⟩; have HT4 := Lib.hid ht; have HS4 := Lib.hid hs; clear ht hs))
    | (go_at_call 41; go_loud (have hq := HS4.out.get 1 (by decide); rw [HE3.out.1] at hq; (with_reducible refine hq.mono ?_); clear hq; rintro e w5 ⟨rfl, hb⟩; have HB5 := Lib.hid hb; clear hb))
    | (go_at_call 14; go_loud (have hq := (HS4.out.below (HB5.out.alloc HB5.out.size (.cells #[.int .i64 0, .int .i64 0, .string ⟨#[]⟩, .slice none 0 0] 33))).next; rw [HE3.out.2.1] at hq; (with_reducible refine hq.mono ?_); clear hq; rintro e w6 ⟨rfl, rfl⟩)))
  go_ret
  have hz1 := HB1.out.size
  have hz2 := HT2.out.size
  have hz3 := HT3.out.size
  have hz4 := HT4.out.size
  rw [size_alloc] at hz2 hz3
  have b1 := HB1.out
  have b2 := (b1.alloc hz1 (.cells #[.int .i64 1, .int .i64 0, .int .i64 5, .string ⟨#[]⟩, .slice none 0 0, .bool false] 35)).trans (HT2.out.below (by rw [size_alloc]; omega) (fun k h => h))
  have hg2 : ∀ k, Gro (fun k => w.heap.size ≤ k) (w1.alloc (.cells #[.int .i64 1, .int .i64 0, .int .i64 5, .string ⟨#[]⟩, .slice none 0 0, .bool false] 35)).heap.size k → w.heap.size ≤ k := fun k hk => by
    rcases hk with hk | hk
    · exact hk
    · rw [size_alloc] at hk; omega
  have b3 := (b2.alloc (by omega) (.cells #[.int .i64 1, .int .i64 0, .int .i64 0, .string ⟨#[]⟩, .slice none 0 0, .bool true] 35)).trans (HT3.out.below (by rw [size_alloc]; omega) hg2)
  have b4 := b3.trans (HT4.out.below (by omega) (fun k hk => by
    rcases hk with hk | hk
    · exact hg2 k hk
    · rw [size_alloc] at hk; omega))
  have b5 := b4.trans (HB5.out.mono (by omega))
  exact ⟨rfl, b5.alloc (by have := b5.size; omega) _⟩
end Go.Proofs.YtcpgbekcbaelpaaGreatDoor
