/- Texts of the proof, in build order: St4, St6, St7, St8. -/
import Derived.Test.YtcpgbekcbaelpaaGreatDoorF33
import Derived.Lib.ConvBytes
import Derived.Test.YtcpgbekcbaelpaaGreatDoorF28
import Derived.Test.YtcpgbekcbaelpaaGreatDoorF15
set_option linter.unusedVariables false
set_option linter.unusedSimpArgs false
set_option linter.unusedSectionVars false
/- Layer 7: an image is read. -/
namespace Go.Proofs.YtcpgbekcbaelpaaGreatDoor
open Go.RowKit Go.Maps Wr
set_option linter.unusedVariables false
set_option linter.unusedSimpArgs false
abbrev dk (b : List UInt8) : Bool := decide ((dec b).2 = 0)
theorem bytesWorld_in (w : World) (s : List UInt8) (hs : s.length ≤ 1000000) : ∃ v, (convert 9 44 (.string (bytes s))).run Tryz.prog w = .ok v (Lib.bytesWorld w 5 (bytes s)) ∧ (∃ cap, v = .slice (some ⟨w.heap.size, 0, none⟩) s.length cap) ∧ BIn (Lib.bytesWorld w 5 (bytes s)) (fun k => k = w.heap.size) v s ∧ Below w.heap.size w (Lib.bytesWorld w 5 (bytes s)) := by
  have hz : (bytes s).size = s.length := bytes_size s
  have hcv := Lib.run_convert_string_bytes (P := Tryz.prog) w 9 44 5 (bytes s) (u := .string) Tryz.underlying9 Tryz.underlying44 Tryz.underlying5
  rw [hz] at hcv
  have hsz := Lib.bytesWorld_size w 5 (bytes s)
  have h1 := grownCap_ge w s.length 0 5
  have h2 := grownCap_le_maxLen w s.length 0 5 (by unfold maxLen; omega)
  refine ⟨_, hcv, ⟨_, rfl⟩, ⟨_, _, rfl, h1, h2, (fun h => by cases h), fun j hj => ⟨_, 0, rfl, by omega, rfl, ?_⟩⟩, ⟨rfl, rfl, rfl, by omega, fun k hk => Lib.bytesWorld_at_old w 5 (bytes s) k hk⟩⟩
  rw [Nat.zero_add, Lib.bytesWorld_cell w 5 (bytes s) j (by rw [hz]; exact hj)]
  simp [bytes, List.getD, hj]
theorem rdv_err0 : ∀ (f k u : Nat) (b : List UInt8) (e : Int), rdv f k u b = .error e → e ≠ 0
  | 0, k, u, b, e, h => by rw [rdv] at h; cases h; decide
  | f + 1, k, u, [], e, h => by rw [rdv] at h; cases h; decide
  | f + 1, k, u, x :: b, e, h => by
    rw [rdv] at h
    split at h
    · cases h; decide
    · split at h
      · exact rdv_err0 f _ _ _ _ h
      · split at h
        · cases h; decide
        · cases h
theorem rn_zero {lo hi x n : Int} {b r : List UInt8} (h : rn lo hi b x = (n, r, 0)) : x = 0 ∧ lo ≤ n ∧ n ≤ hi := by
  unfold rn at h
  split at h
  · rename_i hx
    refine ⟨hx, ?_⟩
    cases h1 : rdNum lo hi b with
    | error e =>
      rw [h1] at h
      simp only [Prod.mk.injEq] at h
      have he : e = 0 := h.2.2
      unfold rdNum at h1
      cases h2 : rdv 10 0 0 b with
      | error y =>
        rw [h2] at h1
        cases h1
        exact absurd he (rdv_err0 _ _ _ _ _ h2)
      | ok q =>
        rw [h2] at h1
        obtain ⟨u, r'⟩ := q
        dsimp only at h1
        split at h1
        · cases h1; cases he
        · cases h1
    | ok q =>
      rw [h1] at h
      unfold rdNum at h1
      cases h2 : rdv 10 0 0 b with
      | error y => rw [h2] at h1; cases h1
      | ok u =>
        rw [h2] at h1
        obtain ⟨u, r'⟩ := u
        dsimp only at h1
        split at h1
        · cases h1
        · rename_i hn
          cases h1
          simp only [Prod.mk.injEq] at h
          omega
  · rename_i hx
    simp only [Prod.mk.injEq] at h
    exact absurd h.2.2 hx
theorem rs_zero {hi x : Int} {b s r : List UInt8} (h : rs hi b x = (s, r, 0)) : x = 0 := by
  obtain ⟨⟨n, r', y⟩, hr⟩ : ∃ a, rn 0 hi b x = a := ⟨_, rfl⟩
  by_cases hy : y = 0
  · subst hy
    exact (rn_zero hr).1
  · rw [rs_err hr hy] at h
    simp only [Prod.mk.injEq] at h
    exact absurd h.2.2 hy
theorem InW.below {M : Nat} {w w' : World} {p : Nat} {b : List UInt8} {x : Int} (h : InW M w p b x) (hb : Below w.heap.size w w') : InW M w' p b x := InW.chg (F := []) h ⟨hb.os, hb.tape, hb.output, hb.size, fun k hk _ => hb.block k hk⟩ (by simp) (by simp)
theorem readObjs_step {dec : List UInt8 → Bool} {n last x : Int} {k : Nat} {b : List UInt8} {rest fin : St.Objs × List UInt8} {id x2 x3 : Int} {b2 sb b3 : List UInt8} (hi : rn (last + 1) (n - 1) b x = (id, b2, x2)) (hs : rs 16384 b2 x2 = (sb, b3, x3)) (h : St.readObjs dec n (k + 1) last b x = some rest) :
    dec sb = true ∧ x3 = 0 ∧ x2 = 0 ∧ x = 0 ∧ last + 1 ≤ id ∧ id ≤ n - 1 ∧ ∃ r, St.readObjs dec n k id b3 0 = some r ∧ rest = ((id, sb) :: r.1, r.2) := by
  rw [St.readObjs] at h
  rw [hi] at h
  dsimp only at h
  rw [hs] at h
  dsimp only at h
  split at h
  · rename_i hc
    obtain ⟨h1, h2⟩ := hc
    subst h2
    have h3 := rs_zero hs
    subst h3
    obtain ⟨h4, h5, h6⟩ := rn_zero hi
    rw [Option.map_eq_some_iff] at h
    obtain ⟨r, hr, he⟩ := h
    exact ⟨h1, rfl, rfl, h4, h5, h6, r, hr, he.symm⟩
  · cases h
def RiI (W : World) (N pr M mb t5 : Nat) (n : Int) (o : St.Objs) (cnt : Nat) (k : Nat) (s6 s19 : Value) (X : World) : Prop :=
  ∃ (i : Nat) (last : Int) (b : List UInt8) (x : Int) (ov : OV) (rest : St.Objs), s19 = .int .i64 (i : Int) ∧ s6 = .int .i64 last ∧ i + k = cnt ∧ InW M X pr b x ∧ b.length ≤ 1000000 ∧ 0 ≤ last ∧ last ≤ 2199023255552 ∧
    St.readObjs dk n k last b x = some (rest, []) ∧ o = ovO ov ++ rest ∧ (∀ y ∈ ov, y.1 ≤ last) ∧ OMap X mb ov ∧ OvIn X (fun j => N ≤ j ∧ j ≠ mb ∧ j ≠ pr ∧ j ≠ t5) ov ∧ X.heap[t5]? = some (objO mb n) ∧ Below N W X ∧ ov.length ≤ i ∧ W.heap.size ≤ X.heap.size
set_option maxRecDepth 100000 in
set_option maxHeartbeats 8000000 in
theorem readImage_any {w : World} {v : Value} {b : List UInt8} (hb : BytesIn w v b) (hl : b.length ≤ 1000000) {o : St.Objs} {n : Int} (hok : St.readImage dk b = some (o, n)) :
    Calls Tryz.prog 102 #[v] w fun e w' => ∃ mb ov, e = .returned (.tuple #[.agg #[.map (some mb), .int .i64 n], .bool true]) ∧ w.heap.size ≤ mb ∧ OMap w' mb ov ∧ ovO ov = o ∧ OvIn w' (fun k => w.heap.size ≤ k ∧ k ≠ mb) ov ∧ Below w.heap.size w w' := by
  obtain ⟨⟨nv, nb, nx⟩, hn0⟩ : ∃ a, rn 1 2199023255552 b 0 = a := ⟨_, rfl⟩
  obtain ⟨⟨cv, cb, cx⟩, hc0⟩ : ∃ a, rn 0 67108864 nb nx = a := ⟨_, rfl⟩
  have hnl : nb.length ≤ 1000000 := by have := rn_le 1 2199023255552 b 0; rw [hn0] at this; exact Nat.le_trans this hl
  have hcl : cb.length ≤ 1000000 := by have := rn_le 0 67108864 nb nx; rw [hc0] at this; exact Nat.le_trans this hnl
  have hcc : 0 ≤ cv ∧ cv ≤ 67108864 := by have := rn_count (lo := 0) (hi := 67108864) nb nx (by omega) (by omega); rw [hc0] at this; exact this
  have hnc : 0 ≤ nv ∧ nv ≤ 2199023255552 := by have := rn_count (lo := 1) (hi := 2199023255552) b 0 (by omega) (by omega); rw [hn0] at this; exact this
  have hro : nv = n ∧ St.readObjs dk nv cv.toNat 0 cb cx = some (o, []) := by
    unfold St.readImage at hok
    dsimp only at hok
    rw [hn0] at hok
    dsimp only at hok
    rw [hc0] at hok
    dsimp only at hok
    cases h1 : St.readObjs dk nv cv.toNat 0 cb cx with
    | none => rw [h1] at hok; cases hok
    | some p =>
      rw [h1] at hok
      obtain ⟨p1, p2⟩ := p
      dsimp only at hok
      split at hok
      · rename_i hp; cases hok; rw [hp]; exact ⟨rfl, rfl⟩
      · cases hok
  obtain ⟨rfl, hro⟩ := hro
  obtain ⟨cnt, rfl⟩ : ∃ c : Nat, cv = (c : Int) := ⟨cv.toNat, by omega⟩
  rw [Int.toNat_natCast] at hro
  have hb0 : Below w.heap.size w (w.alloc (.cells #[.map none, .int .i64 0] 100)) := (Below.refl _ w).alloc (Nat.le_refl _) _
  have HO := Lib.hid (open_any v b _ (hb.below hb0) hl)
  have HRO := Lib.hid hro
  have HN0 := Lib.hid hn0
  have HC0 := Lib.hid hc0
  have HL := Lib.hid hl
  have HNL := Lib.hid hnl
  have HCL := Lib.hid hcl
  have HNC := Lib.hid hnc
  have HB0 := Lib.hid hb0
  have HZ0 : Hid ((w.alloc (.cells #[.map none, .int .i64 0] 100)).heap.size = w.heap.size + 1) := by show _ = _; simp
  have HQ0 := Lib.hid (heap_alloc_new w (.cells #[.map none, .int .i64 0] 100))
  have hcz : (cnt : Int) ≤ 67108864 := hcc.2
  obtain ⟨W0, hW0⟩ : ∃ W0, w.alloc (.cells #[.map none, .int .i64 0] 100) = W0 := ⟨_, rfl⟩
  rw [hW0] at HO HB0 HZ0 HQ0
  clear hb hl hok hnl hcl hcc hnc hro hn0 hc0 hb0
  have hmm := @run_makeMap Tryz.prog
  go_enter Tryz.func102, Tryz.ntmps102
  go_wp2_with (first
    | (go_at_call 110; refine HO.out.mono ?_; rintro e w1 ⟨pr, M, rfl, hp1, hp2, hin, hb1⟩; have HP1 := Lib.hid hp1; have HM1 := Lib.hid hp2; have HI1 := Lib.hid hin; have HB1 := Lib.hid hb1; have hin2 := InW.below hin (w' := w1.alloc (.map #[] 0)) ((Below.refl _ _).alloc (Nat.le_refl _) _); have HI2 := Lib.hid hin2; clear hp1 hp2 hin hb1 hin2)
    | (go_at_call 111; (with_reducible refine (wNum_fn pr b 0 1 2199023255552 _ HI2.out HL.out).mono ?_); rintro e w2 ⟨he, hin, hc⟩; rw [HN0.out] at he hin; dsimp only at he hin; subst he; have HC2 := Lib.hid hc; have hin3 := InW.below hin (w' := w2.alloc (objO w1.heap.size nv)) ((Below.refl _ _).alloc (Nat.le_refl _) _); have HI3 := Lib.hid hin3; clear hin hc hin3 HI2)
    | (go_at_call 111; (with_reducible refine (wNum_fn pr nb nx 0 67108864 _ HI3.out HNL.out).mono ?_); rintro e w3 ⟨he, hin, hc⟩; rw [HC0.out] at he hin; dsimp only at he hin; subst he; have HC3 := Lib.hid hc; have HI4 := Lib.hid hin; clear hin hc HI3))
  have hpw := InW.lt HI1.out
  have hp1 := HP1.out
  have hz0 := HZ0.out
  have hz1 : (w1.alloc (.map #[] 0)).heap.size = w1.heap.size + 1 := by simp
  have hz2 := HC2.out.size
  have hz3 : (w2.alloc (objO w1.heap.size nv)).heap.size = w2.heap.size + 1 := by simp
  have hz4 := HC3.out.size
  have hzb := HB1.out.size
  have hm3 : OMap w3 w1.heap.size [] := (((OMap.made w1).turn (Turn.of_chg HC2.out (M := fun k => k = pr) (fun k hk => .inl (by simpa using hk))) (fun e => by omega)).alloc _).turn (Turn.of_chg HC3.out (M := fun k => k = pr) (fun k hk => .inl (by simpa using hk))) (fun e => by omega)
  have ht3 : w3.heap[w2.heap.size]? = some (objO w1.heap.size nv) := (HC3.out.block _ (by omega) (by simp; omega)).trans (heap_alloc_new w2 _)
  have hbw : Below (w.heap.size + 1) W0 w3 := by
    have h1 : Below (w.heap.size + 1) W0 w1 := HB1.out.mono (by omega)
    have h2 := (h1.alloc (by omega) (.map #[] 0)).trans (HC2.out.below (by omega) (fun k hk => by simp at hk; omega))
    exact (h2.alloc (by omega) (objO w1.heap.size nv)).trans (HC3.out.below (by omega) (fun k hk => by simp at hk; omega))
  have HI0 : Hid (RiI w3 (w.heap.size + 1) pr M w1.heap.size w2.heap.size nv o cnt cnt (.int .i64 0) (.int .i64 0) w3) := ⟨0, 0, cb, cx, [], o, rfl, rfl, by omega, HI4.out, HCL.out, by omega, by omega, HRO.out, rfl, (fun y hy => by cases hy), hm3, (fun y hy => by cases hy), ht3, Below.refl _ _, Nat.le_refl _, Nat.le_refl _⟩
  have HBW := Lib.hid hbw
  have HPM : Hid (pr < w1.heap.size ∧ w1.heap.size < w2.heap.size ∧ w2.heap.size < w3.heap.size ∧ w.heap.size + 1 ≤ pr ∧ M ≤ w1.heap.size) := ⟨by omega, by omega, by omega, by omega, HM1.out⟩
  obtain ⟨mb, hmb⟩ : ∃ mb, w1.heap.size = mb := ⟨_, rfl⟩
  obtain ⟨t5, ht5⟩ : ∃ t5, w2.heap.size = t5 := ⟨_, rfl⟩
  rw [hmb, ht5] at HI0 HPM
  rw [hmb, ht5]
  clear hpw hp1 hz0 hz1 hz2 hz3 hz4 hzb hm3 ht3 hbw HI1 HI4 HC2 HC3 HB1 HP1 HM1 HN0 HC0 HRO HO hmm hmb ht5
  go_loopg [6, 19] cnt (fun gk s6 s19 wr => RiI w3 (w.heap.size + 1) pr M mb t5 nv o cnt gk s6 s19 wr)
  case atStart => exact HI0.out
  case round =>
    clear HI0
    obtain ⟨i, last, b', x, ov, rest, rfl, rfl, hik, hin, hbl, hl0, hl1, hrd, hoe, hlt, hmap, hov, ht5, hbw, hol, hwz⟩ := hrel
    have HIK := Lib.hid hik
    have HIN := Lib.hid hin
    have HBL := Lib.hid hbl
    have HL0 := Lib.hid hl0
    have HOE := Lib.hid hoe
    have HLT := Lib.hid hlt
    have HMAP := Lib.hid hmap
    have HOV := Lib.hid hov
    have HT5 := Lib.hid ht5
    have HBX := Lib.hid hbw
    have HOL := Lib.hid hol
    have HWZ := Lib.hid hwz
    have HPN : Hid (pr < wr.heap.size ∧ mb < wr.heap.size ∧ t5 < wr.heap.size) := ⟨InW.lt hin, hmap.lt, lt_of_block ht5⟩
    have hc0 : wr.cell? ⟨t5, 0, none⟩ = some (.map (some mb)) ∧ wr.cell? ⟨t5, 1, none⟩ = some (.int .i64 nv) := ⟨by simp [World.cell?, ht5], by simp [World.cell?, ht5]⟩
    obtain ⟨c0, c1⟩ := hc0
    by_cases hk : gk = 0
    · subst hk
      rw [St.readObjs] at hrd
      have hx : x = 0 := by
        by_cases hx : x = 0
        · exact hx
        · rw [if_neg hx] at hrd; cases hrd
      subst hx
      rw [if_pos rfl] at hrd
      obtain ⟨rfl, rfl⟩ : [] = rest ∧ b' = [] := by simpa using hrd
      rw [List.append_nil] at hoe
      have HOE' := Lib.hid hoe
      obtain rfl : i = cnt := by omega
      have g1 : ¬ ((i : Int) < (i : Int)) := by omega
      have HE : Hid (∀ W, InW M W pr [] 0 → Calls Tryz.prog 115 #[.pointer (some ⟨pr, 0, none⟩)] W fun e w' => e = .returned (.int .i64 0) ∧ Chg [pr] W w') := fun W hW => by
        have := end_any pr [] 0 W hW
        simpa using this
      have HQW : Hid (w3.heap[w.heap.size]? = some (.cells #[.map none, .int .i64 0] 100)) := (HBW.out.block _ (by omega)).trans (by rw [← hW0]; exact heap_alloc_new w _)
      have hqr : wr.heap[w.heap.size]? = some (.cells #[.map none, .int .i64 0] 100) := (hbw.block _ (by omega)).trans HQW.out
      have HQR := Lib.hid hqr
      have hqf : ∀ j, wr.drew.frozen? ⟨w.heap.size, j, none⟩ = false := fun j => by simp [World.frozen?, show wr.drew.heap[w.heap.size]? = _ from hqr]
      have q0d : wr.drew.cell? ⟨w.heap.size, 0, none⟩ = some (.map none) := by simp [World.cell?, show wr.drew.heap[w.heap.size]? = _ from hqr]
      have q1d : wr.drew.cell? ⟨w.heap.size, 1, none⟩ = some (.int .i64 0) := by simp [World.cell?, show wr.drew.heap[w.heap.size]? = _ from hqr]
      have c0d : wr.drew.cell? ⟨t5, 0, none⟩ = some (.map (some mb)) := c0
      have c1d : wr.drew.cell? ⟨t5, 1, none⟩ = some (.int .i64 nv) := c1
      clear hik hin hbl hl0 hl1 hrd hoe hlt hmap hov ht5 hbw hol hwz hqr
      go_wp2
      go_region_law (first
        | (refine step_callw (by rfl) 115 #[.pointer (some ⟨pr, 0, none⟩)] ?_ (HE.out _ (inw_drewN HIN.out 1)) ?_; go_simp; rintro e w10 ⟨rfl, hc10⟩; refine ⟨.int .i64 0, rfl, ?_⟩; have HC10 : Hid (Chg [pr] wr w10) := (Chg.drewN (Chg.refl [pr] wr) 1).then1 hc10; have ht10 := (HC10.out.block t5 HPN.out.2.2 (by simp; have := HPM.out; omega)).trans HT5.out; have e0 : w10.cell? ⟨t5, 0, none⟩ = some (.map (some mb)) := (by simp [World.cell?, ht10]); have e1 : w10.cell? ⟨t5, 1, none⟩ = some (.int .i64 nv) := (by simp [World.cell?, ht10]); have hq10 := (HC10.out.block w.heap.size (lt_of_block HQR.out) (by simp; have := HPM.out; omega)).trans HQR.out; have HQ10 := Lib.hid hq10; have qf10 : ∀ j, w10.frozen? ⟨w.heap.size, j, none⟩ = false := (fun j => by simp [World.frozen?, hq10]); have q0 : w10.cell? ⟨w.heap.size, 0, none⟩ = some (.map none) := (by simp [World.cell?, hq10]); have q1 : w10.cell? ⟨w.heap.size, 1, none⟩ = some (.int .i64 0) := (by simp [World.cell?, hq10]); clear hc10 ht10 hq10))
      all_goals
        go_wp2
        have hz := (dk_set (o := 1) (u := .int .i64 nv) (dk_set (o := 0) (u := .map (some mb)) HQ10.out)).trans rfl
        have hzc : Chg [w.heap.size] w10 ((w10.setCell ⟨w.heap.size, 0, none⟩ (.map (some mb))).setCell ⟨w.heap.size, 1, none⟩ (.int .i64 nv)) := (chg_set _ _ _ _).then1 (chg_set _ _ _ _)
        replace hz : ((w10.setCell ⟨w.heap.size, 0, none⟩ (.map (some mb))).setCell ⟨w.heap.size, 1, none⟩ (.int .i64 nv)).heap[w.heap.size]? = some (.cells #[.map (some mb), .int .i64 nv] 100 (0, 0)) := hz
        generalize ((w10.setCell ⟨w.heap.size, 0, none⟩ (.map (some mb))).setCell ⟨w.heap.size, 1, none⟩ (.int .i64 nv)) = wz at hz hzc ⊢
        have y0 : wz.cell? ⟨w.heap.size, 0, none⟩ = some (.map (some mb)) := by simp [World.cell?, hz]
        have y1 : wz.cell? ⟨w.heap.size, 1, none⟩ = some (.int .i64 nv) := by simp [World.cell?, hz]
        refine bodyPost_ret (v := .tuple #[.agg #[.map (some mb), .int .i64 nv], .bool true]) (by simp [results, Tryz.results102, go_sem, y0, y1]) rfl ⟨mb, ov, rfl, ?_, ?_, HOE'.out.symm, ?_, ?_⟩
        · have := HPM.out; omega
        · have hpm := HPM.out
          exact (HMAP.out.turn (Turn.of_chg HC10.out (M := fun k => k = pr) (fun k hk => .inl (by simpa using hk))) (fun e => by omega)).turn (Turn.of_chg hzc (M := fun k => k = w.heap.size) (fun k hk => .inl (by simpa using hk))) (fun e => by omega)
        · exact ((HOV.out.turn (Turn.of_chg HC10.out (M := fun k => k = pr) (fun k hk => .inl (by simpa using hk))) (fun k hk e => hk.2.2.1 e)).turn (Turn.of_chg hzc (M := fun k => k = w.heap.size) (fun k hk => .inl (by simpa using hk))) (fun k hk e => by omega)).mono (fun k _ hk => ⟨by omega, hk.2.1⟩)
        · have hpm := HPM.out
          have h1 := HB0.out
          have h2 := HBW.out
          have h3 := HBX.out
          have z1 := h1.size
          have z2 := h2.size
          have z3 := h3.size
          have z4 := HC10.out.size
          exact (((h1.trans (h2.mono (by omega))).trans (h3.mono (by omega))).trans (HC10.out.below (by omega) (fun k hk => by simp at hk; omega))).trans (hzc.below (by omega) (fun k hk => by simp at hk; omega))
    · obtain ⟨k, rfl⟩ : ∃ k, gk = k + 1 := ⟨gk - 1, by omega⟩
      have g1 : (i : Int) < (cnt : Int) := by omega
      obtain ⟨⟨id, b2, x2⟩, hi0⟩ : ∃ a, rn (last + 1) (nv - 1) b' x = a := ⟨_, rfl⟩
      obtain ⟨⟨sb, b3, x3⟩, hs0⟩ : ∃ a, rs 16384 b2 x2 = a := ⟨_, rfl⟩
      obtain ⟨hdk, rfl, rfl, rfl, hid1, hid2, rr, hrr, hre⟩ := readObjs_step (rest := (rest, [])) (fin := (rest, [])) hi0 hs0 hrd
      obtain ⟨rr, rfin⟩ := rr
      dsimp only at hre
      obtain ⟨rfl, rfl⟩ : rest = (id, sb) :: rr ∧ [] = rfin := by simpa using hre
      have hb2 : b2.length ≤ 1000000 := by have := rn_le (last + 1) (nv - 1) b' 0; rw [hi0] at this; exact Nat.le_trans this hbl
      have hb3 : b3.length ≤ 1000000 := by have := rs_le 16384 b2 0; rw [hs0] at this; exact Nat.le_trans this hb2
      have hsb : sb.length ≤ 1000000 := by have := rs_len 16384 b2 0; rw [hs0] at this; exact Nat.le_trans this hb2
      have hd2 : (dec sb).2 = 0 := of_decide_eq_true hdk
      obtain ⟨t, ht⟩ : ∃ t, (dec sb).1 = t := ⟨_, rfl⟩
      have HT := Lib.hid ht
      have HD2 := Lib.hid hd2
      have HI0 := Lib.hid hi0
      have HS0 := Lib.hid hs0
      have HB2 := Lib.hid hb2
      have HB3 := Lib.hid hb3
      have HSB := Lib.hid hsb
      have HID : Hid (last + 1 ≤ id ∧ id ≤ nv - 1) := ⟨hid1, hid2⟩
      have HRR := Lib.hid hrr
      have w1' : IntKind.i64.wrap (last + 1) = last + 1 := by rw [IntKind.wrap_i64]; omega
      have w2' : IntKind.i64.wrap (nv - 1) = nv - 1 := by rw [IntKind.wrap_i64]; have := HNC.out; omega
      have w3' : IntKind.i64.wrap ((i : Int) + 1) = (i : Int) + 1 := by rw [IntKind.wrap_i64]; omega
      clear hik hin hbl hl0 hl1 hrd hoe hlt hmap hov ht5 hbw hol hwz hk hi0 hs0 hdk hid1 hid2 hrr hre hb2 hb3 hsb hd2 ht
      go_wp2_with (first
        | (go_at_call 111; refine (wNum_fn pr b' 0 (last + 1) (nv - 1) wr HIN.out HBL.out).mono ?_; rintro e w4 ⟨he, hin, hc⟩; rw [HI0.out] at he hin; dsimp only at he hin; subst he; have HC4 := Lib.hid hc; have HIN4 := Lib.hid hin; clear hin hc)
        | (go_at_call 112; refine (wStr_fn pr b2 0 16384 w4 HIN4.out HB2.out (by omega)).mono ?_; rintro e w5 ⟨he, hin, hc⟩; rw [HS0.out] at he hin; dsimp only at he hin; subst he; have HC5 := Lib.hid hc; obtain ⟨v6, hcv6, ⟨c6, rfl⟩, hin6, hb6⟩ := bytesWorld_in w5 sb HSB.out; generalize Lib.bytesWorld w5 5 (bytes sb) = w6 at *; have HIN6 := Lib.hid hin6; have HB6 := Lib.hid hb6; have HI6 := Lib.hid (InW.below hin hb6); clear hin hc hin6 hb6)
        | (go_at_call 87; refine (decode_any _ sb w6 HIN6.out.bytesIn HSB.out).mono ?_; rintro e w7 ⟨v7, rfl, hv7, hb7⟩; rw [HD2.out]; rw [HT.out] at hv7; obtain ⟨ao7, cap7, hve⟩ := hv7.form; replace hve : v7 = .agg #[.int .i64 t.kind, .int .i64 t.num, .string t.text, .slice ao7 t.kids.length cap7] := hve; subst hve; have HB7 := Lib.hid hb7; clear hv7 hb7)
        | (go_at_call 114; (have hal : Below w7.heap.size w7 (w7.alloc (.cells #[.int .i64 t.kind, .int .i64 t.num, .string t.text, .slice ao7 t.kids.length cap7] 33)) := (Below.refl _ _).alloc (Nat.le_refl _) _); generalize w7.alloc (.cells #[.int .i64 t.kind, .int .i64 t.num, .string t.text, .slice ao7 t.kids.length cap7] 33) = w8 at *; have hi8 := InW.below (InW.below HI6.out HB7.out) hal; refine (err_any pr b3 0 w8 hi8).mono ?_; rintro e w8' ⟨rfl, rfl⟩; have hc8 : Chg [pr] wr w8 := (((HC4.out.then1 HC5.out).thenBelow (HB6.out.mono (HC4.out.then1 HC5.out).size)).thenBelow (HB7.out.mono (by have h1 := (HC4.out.then1 HC5.out).size; have h2 := HB6.out.size; omega))).thenBelow (hal.mono (by have h1 := (HC4.out.then1 HC5.out).size; have h2 := HB6.out.size; have h3 := HB7.out.size; omega)); have HI8 := Lib.hid hi8; have HC8 := Lib.hid hc8; have HB78 : Hid (Below w6.heap.size w6 w8) := HB7.out.trans (hal.mono HB7.out.size); have ht8 := (hc8.block t5 HPN.out.2.2 (by simp; have := HPM.out; omega)).trans HT5.out; have HT8 := Lib.hid ht8; have d0 : w8.cell? ⟨t5, 0, none⟩ = some (.map (some mb)) := (by simp [World.cell?, ht8]); clear hal hi8 hc8 ht8)
        | (at_mapUpdate; refine wpList_update_omap (w := w8) rfl _ _ _ rfl (HMAP.out.turn (Turn.of_chg HC8.out (M := fun k => k = pr) (fun k hk => .inl (by simpa using hk))) (fun e => by have := HPM.out; omega)) (by have := HOL.out; unfold maxLen; omega) rfl id (.slice (some ⟨w5.heap.size, 0, none⟩) sb.length c6) sb rfl rfl (WalkArith.wf_i64 (by have := HID.out; have := HL0.out; have := HNC.out; omega)) ?_; intro w9 hm9 hc9; have HM9 := Lib.hid hm9; have HC9 := Lib.hid hc9; clear hm9 hc9))
      go_roundg k
      case measure => omega
      case rel =>
        have hpm := HPM.out
        have hwz := HWZ.out
        have hpn := HPN.out
        have hid := HID.out
        have hnc := HNC.out
        have z8 := HC8.out.size
        have z45 := (HC4.out.then1 HC5.out).size
        have z9 := HC9.out.size
        have hlt' : ∀ y ∈ ov, y.1 < id := fun y hy => by have := HLT.out y hy; omega
        have t8 : Turn (fun k => k = pr) wr w8 := Turn.of_chg HC8.out (fun k hk => .inl (by simpa using hk))
        have t9 : Turn (fun k => k = mb) w8 w9 := Turn.of_chg HC9.out (fun k hk => .inl (by simpa using hk))
        have hput : ovPut id (.slice (some ⟨w5.heap.size, 0, none⟩) sb.length c6) sb ov = ov ++ [(id, .slice (some ⟨w5.heap.size, 0, none⟩) sb.length c6, sb)] := ovPut_last hlt'
        have hbx : BIn w9 (fun j => w.heap.size + 1 ≤ j ∧ j ≠ mb ∧ j ≠ pr ∧ j ≠ t5) (.slice (some ⟨w5.heap.size, 0, none⟩) sb.length c6) sb := by
          have h6 := HIN6.out
          have h8 : BIn w8 (fun k => k = w5.heap.size) (.slice (some ⟨w5.heap.size, 0, none⟩) sb.length c6) sb := h6.below (HB78.out)
          refine (h8.turn t9 (fun k hk e => by omega)).mono (fun k _ hk => ⟨by have := HWZ.out; omega, by omega, by omega, by omega⟩)
        refine ⟨i + 1, id, b3, 0, ovPut id (.slice (some ⟨w5.heap.size, 0, none⟩) sb.length c6) sb ov, rr, by go_num, rfl, by have := HIK.out; omega, InW.chg HI8.out HC9.out (by simp; omega) (fun k hk => by simp at hk; omega), HB3.out, by have := HL0.out; omega, by omega, HRR.out, ?_, fun y hy => ?_, HM9.out, ?_, ?_, ?_, ?_, by omega⟩
        · rw [HOE.out, hput]
          unfold ovO
          rw [List.map_append, List.append_assoc]
          rfl
        · rw [hput] at hy
          rcases List.mem_append.1 hy with hy | hy
          · have := hlt' y hy; omega
          · rw [List.mem_singleton] at hy; subst hy; exact Int.le_refl _
        · exact ((HOV.out.turn t8 (fun k hk e => hk.2.2.1 e)).turn t9 (fun k hk e => hk.2.1 e)).put id hbx
        · exact (HC9.out.block t5 (by omega) (by simp; omega)).trans HT8.out
        · exact HBX.out.trans ((t8.below (by have := HWZ.out; omega) (fun k hk => by omega)).trans (t9.below (by have := HWZ.out; omega) (fun k hk => by omega)))
        · rw [hput, List.length_append]
          have := HOL.out
          simp
          omega
end Go.Proofs.YtcpgbekcbaelpaaGreatDoor
/- Layer 7: the head that counts, and its image, are read. -/
namespace Go.Proofs.YtcpgbekcbaelpaaGreatDoor
open Go.RowKit Go.Maps Wr
set_option linter.unusedVariables false
set_option linter.unusedSimpArgs false
def secsT (s : Nat → List UInt8) (k : Nat) : List UInt8 := (List.range k).flatMap s
theorem secsT_succ (s : Nat → List UInt8) (k : Nat) : secsT s (k + 1) = secsT s k ++ s k := by unfold secsT; rw [List.range_succ, List.flatMap_append]; simp
theorem secsT_len (s : Nat → List UInt8) : ∀ k, (∀ j, j < k → (s j).length = 512) → (secsT s k).length = 512 * k
  | 0, _ => rfl
  | k + 1, h => by rw [secsT_succ, List.length_append, secsT_len s k (fun j hj => h j (by omega)), h k (by omega)]; omega
theorem readD_on {D : St.Dk} (ho : D.off = false) {i : Nat} (hi : i < D.last.length) : St.readD (i : Int) D = (.ok (D.now i), D) := by
  unfold St.readD
  rw [read_on ho hi]
  rfl
theorem readsD_on {D : St.Dk} (ho : D.off = false) : ∀ (k i : Nat), i + k ≤ D.last.length → St.readsD (i : Int) k D = (.ok ((List.range k).flatMap fun j => D.now (i + j)), D)
  | 0, i, _ => rfl
  | k + 1, i, h => by
    rw [St.readsD, andThen_ok (readD_on ho (show i < _ by omega))]
    have ih := readsD_on ho k (i + 1) (by omega)
    rw [show ((i + 1 : Nat) : Int) = (i : Int) + 1 by omega] at ih
    rw [andThen_ok ih]
    have e : (List.range (k + 1)).flatMap (fun j => D.now (i + j)) = D.now i ++ (List.range k).flatMap (fun j => D.now (i + 1 + j)) := by
      rw [List.range_succ_eq_map, List.flatMap_cons, List.flatMap_map, Nat.add_zero]
      refine congrArg (fun g => D.now i ++ (List.range k).flatMap g) (funext fun j => congrArg D.now ?_)
      show i + (j + 1) = i + 1 + j
      omega
    rw [e]
    rfl
structure HdB (h : St.Hd2) : Prop where
  t : 0 ≤ h.turn ∧ h.turn ≤ 4611686018427387904
  f : 0 ≤ h.half ∧ h.half ≤ 1
  z : 0 ≤ h.size ∧ h.size ≤ 67108864
  s : 0 ≤ h.sum ∧ h.sum ≤ 4294967296
  a : 0 ≤ h.age ∧ h.age ≤ 4611686018427387904
theorem noHd_b : HdB St.noHd := ⟨by decide, by decide, by decide, by decide, by decide⟩
theorem readHd_b (b : List UInt8) : HdB (St.readHd b) := by
  unfold St.readHd
  split
  · dsimp only
    split
    · exact ⟨rn_count _ _ (by omega) (by decide), rn_count _ _ (by omega) (by omega), rn_count _ _ (by omega) (by omega), rn_count _ _ (by omega) (by omega), rn_count _ _ (by omega) (by decide)⟩
    · exact noHd_b
  · exact noHd_b
theorem laterHd_b {h : St.Hd2} (hb : HdB h) (b : List UInt8) : HdB (St.laterHd h b) := by
  unfold St.laterHd
  split
  · exact readHd_b b
  · exact hb
theorem load_ok {dec : List UInt8 → Bool} {D : St.Dk} {count each : Nat} {hd : St.Hd2} {o : St.Objs} {n : Int} (ho : D.off = false) (hn : 2 + count + 2 * each ≤ D.last.length) (h2 : 2 ≤ D.last.length) (hok : (St.load dec count each D).1 = .ok (hd, o, n)) :
    hd = St.laterHd (St.laterHd St.noHd (D.now 0)) (D.now 1) ∧ hd.turn ≠ 0 ∧ hd.size ≤ (each : Int) * 512 ∧ St.readImage dec ((secsT (fun j => D.now (2 + count + hd.half.toNat * each + j)) ((hd.size.toNat + 511) / 512)).take hd.size.toNat) = some (o, n) ∧
      ((St.crc ((secsT (fun j => D.now (2 + count + hd.half.toNat * each + j)) ((hd.size.toNat + 511) / 512)).take hd.size.toNat) : Nat) : Int) = hd.sum := by
  unfold St.load at hok
  have e0 := readD_on ho (i := 0) (by omega)
  have e1 := readD_on ho (i := 1) (by omega)
  rw [show ((0 : Nat) : Int) = 0 from rfl] at e0
  rw [show ((1 : Nat) : Int) = 1 from rfl] at e1
  rw [andThen_ok e0, andThen_ok e1] at hok
  have hb := laterHd_b (laterHd_b noHd_b (D.now 0)) (D.now 1)
  generalize St.laterHd (St.laterHd St.noHd (D.now 0)) (D.now 1) = h at hok hb
  by_cases hc : h.turn = 0 ∨ (each : Int) * 512 < h.size
  · rw [if_pos hc] at hok; cases hok
  · rw [if_neg hc] at hok
    have hf := hb.f
    have hz := hb.z
    have hpos : ((2 + count : Nat) : Int) + h.half * each = ((2 + count + h.half.toNat * each : Nat) : Int) := by
      obtain ⟨a, ha⟩ : ∃ a : Nat, h.half = (a : Int) := ⟨h.half.toNat, by omega⟩
      rw [ha, Int.toNat_natCast]
      have e : ((a * each : Nat) : Int) = (a : Int) * (each : Int) := by simp
      omega
    have hin : 2 + count + h.half.toNat * each + (h.size.toNat + 511) / 512 ≤ D.last.length := by
      have h1 : (h.size.toNat + 511) / 512 ≤ each := by omega
      have h2 : h.half.toNat * each ≤ 1 * each := Nat.mul_le_mul_right _ (by omega)
      omega
    rw [hpos, andThen_ok (readsD_on ho _ _ hin)] at hok
    change ((match St.readImage dec ((secsT (fun j => D.now (2 + count + h.half.toNat * each + j)) ((h.size.toNat + 511) / 512)).take h.size.toNat) with
      | none => St.DM.no 9
      | some p => if ((St.crc ((secsT (fun j => D.now (2 + count + h.half.toNat * each + j)) ((h.size.toNat + 511) / 512)).take h.size.toNat) : Nat) : Int) = h.sum then St.DM.ret (h, p.1, p.2) else St.DM.no 9) D).1 = _ at hok
    cases hr : St.readImage dec ((secsT (fun j => D.now (2 + count + h.half.toNat * each + j)) ((h.size.toNat + 511) / 512)).take h.size.toNat) with
    | none => rw [hr] at hok; cases hok
    | some p =>
      rw [hr] at hok
      dsimp only at hok
      split at hok
      · rename_i hs
        cases hok
        exact ⟨rfl, fun e => hc (.inl e), by omega, hr, hs⟩
      · cases hok
theorem slice_hrow {w : World} {N g cap : Nat} {b : List UInt8} (h : ByteRow w N (.slice (some ⟨g, 0, none⟩) b.length cap) b) (k : Nat) (hk : k ≤ b.length) :
    (∀ W, (Instr.slice 44 (.slice (some ⟨g, 0, none⟩) b.length cap) none (some (.int .i64 (k : Int))) none).run Tryz.prog W = .ok (.slice (some ⟨g, 0, none⟩) k cap) W) ∧ ByteRow w N (.slice (some ⟨g, 0, none⟩) k cap) (b.take k) := by
  obtain ⟨ao, cap', e, hc, _⟩ := h.form
  cases e
  have hs : ∀ W, (sizeOf (Tryz.prog.elem 44)).run Tryz.prog W = .ok 1 W := fun W => by kernel_rfl
  have hr := fun W : World => run_slice_h (P := Tryz.prog) (w := W) 44 (some ⟨g, 0, none⟩) b.length cap (by kernel_rfl) .i64 (k : Int) (by omega) (by omega)
  simp only [hs, Result.andThen, Int.toNat_natCast] at hr
  refine ⟨fun W => ?_, ?_, fun j hj => h.2 j (by simpa [Value.ownBlock] using hj)⟩
  · rw [hr W]
    by_cases h0 : cap = 0
    · simp [sliced, h0, Addr.add]
    · simp [sliced, h0, Addr.add]
  · have := h.1.take k (by rw [bvals_length]; exact hk)
    unfold bvals at this ⊢
    rwa [List.map_take]
theorem store_hd {w : World} {b g : Nat} {mv lv : Value} {nx fr ea : Int} {h : St.Hd2} {y0 y1 y2 y3 y4 : Int} (hb : w.heap[b]? = some (storeO mv nx h g lv fr ea)) :
    (((((w.setCell ⟨b, 2, none⟩ (.int .i64 y0)).setCell ⟨b, 3, none⟩ (.int .i64 y1)).setCell ⟨b, 4, none⟩ (.int .i64 y2)).setCell ⟨b, 5, none⟩ (.int .i64 y3)).setCell ⟨b, 6, none⟩ (.int .i64 y4)).heap[b]? = some (storeO mv nx ⟨y0, y1, y2, y3, y4⟩ g lv fr ea) ∧
    Chg [b] w (((((w.setCell ⟨b, 2, none⟩ (.int .i64 y0)).setCell ⟨b, 3, none⟩ (.int .i64 y1)).setCell ⟨b, 4, none⟩ (.int .i64 y2)).setCell ⟨b, 5, none⟩ (.int .i64 y3)).setCell ⟨b, 6, none⟩ (.int .i64 y4)) := by
  refine ⟨(dk_set (o := 6) (u := .int .i64 y4) (dk_set (o := 5) (u := .int .i64 y3) (dk_set (o := 4) (u := .int .i64 y2) (dk_set (o := 3) (u := .int .i64 y1) (dk_set (o := 2) (u := .int .i64 y0) hb))))).trans rfl, ?_⟩
  exact ((((chg_set _ _ _ _).then1 (chg_set _ _ _ _)).then1 (chg_set _ _ _ _)).then1 (chg_set _ _ _ _)).then1 (chg_set _ _ _ _)
theorem store_obj {w : World} {b g : Nat} {mv lv : Value} {nx fr ea : Int} {h : St.Hd2} {y0 : Value} {y1 : Int} (hb : w.heap[b]? = some (storeO mv nx h g lv fr ea)) :
    ((w.setCell ⟨b, 0, none⟩ y0).setCell ⟨b, 1, none⟩ (.int .i64 y1)).heap[b]? = some (storeO y0 y1 h g lv fr ea) ∧ Chg [b] w ((w.setCell ⟨b, 0, none⟩ y0).setCell ⟨b, 1, none⟩ (.int .i64 y1)) :=
  ⟨(dk_set (o := 1) (u := .int .i64 y1) (dk_set (o := 0) (u := y0) hb)).trans rfl, (chg_set _ _ _ _).then1 (chg_set _ _ _ _)⟩
def hdI (a b : List UInt8) : Nat → St.Hd2
  | 0 => St.noHd
  | 1 => St.laterHd St.noHd a
  | _ => St.laterHd (St.laterHd St.noHd a) b
theorem hdI_b (a b : List UInt8) (i : Nat) : HdB (hdI a b i) := by
  match i with
  | 0 => exact noHd_b
  | 1 => exact laterHd_b noHd_b _
  | _ + 2 => exact laterHd_b (laterHd_b noHd_b _) _
theorem readImage_pos {dec : List UInt8 → Bool} {p : St.Objs × Int} (h : St.readImage dec [] = some p) : False := by
  obtain ⟨e, he, h1⟩ := St.rn_nil 1 2199023255552 0
  unfold St.readImage at h
  rw [h1] at h
  dsimp only at h
  rw [rn_past he] at h
  dsimp only at h
  rw [show (0 : Int).toNat = 0 from rfl, St.readObjs, if_neg he] at h
  cases h
def LdI (w : World) (b g : Nat) (mv lv : Value) (nx fr ea : Int) (s0 s1 : List UInt8) (k : Nat) (s13 : Value) (X : World) : Prop :=
  ∃ i : Nat, s13 = .int .i64 (i : Int) ∧ i + k = 2 ∧ X.heap[b]? = some (storeO mv nx (hdI s0 s1 i) g lv fr ea) ∧ Turn (fun k => k = b) w X
def LdJ (w : World) (s : Nat → List UInt8) (cnt : Nat) (k : Nat) (s7 s8 : Value) (X : World) : Prop :=
  ∃ i : Nat, s8 = .int .i64 (i : Int) ∧ i + k = cnt ∧ ByteRow X w.heap.size s7 (secsT s i) ∧ Below w.heap.size w X
set_option maxRecDepth 100000 in
set_option maxHeartbeats 8000000 in
theorem load_any {w : World} {b g : Nat} {D : St.Dk} {M R : Nat → Prop} {mv lv : Value} {nx : Int} {count each : Nat} {hd : St.Hd2} {o : St.Objs} {n : Int} (h : DkAt w g D M R) (hb : w.heap[b]? = some (storeO mv nx St.noHd g lv ((2 + count : Nat) : Int) (each : Int))) (hMb : ¬ M b) (hRb : ¬ R b) (hT : Half w) (hgb : 0 ≠ b)
    (ho : D.off = false) (hn : 2 + count + 2 * each ≤ D.last.length) (he : each ≤ 1000) (hok : (St.load dk count each D).1 = .ok (hd, o, n)) :
    Calls Tryz.prog 50 #[.pointer (some ⟨b, 0, none⟩)] w fun e w' => e = .returned (.int .i64 0) ∧ ∃ mb ov, w'.heap[b]? = some (storeO (.map (some mb)) n hd g lv ((2 + count : Nat) : Int) (each : Int)) ∧ w.heap.size ≤ mb ∧ OMap w' mb ov ∧ ovO ov = o ∧ OvIn w' (fun k => w.heap.size ≤ k ∧ k ≠ mb) ov ∧ Turn (fun k => k = b) w w' := by
  have hlen := h.len
  obtain ⟨h1, h2, h3, h4, h5⟩ := load_ok ho hn (by omega) hok
  obtain ⟨s0, hs0⟩ : ∃ s0, D.now 0 = s0 := ⟨_, rfl⟩
  obtain ⟨s1, hs1⟩ : ∃ s1, D.now 1 = s1 := ⟨_, rfl⟩
  rw [hs0, hs1] at h1
  have hhd : hdI s0 s1 2 = hd := h1.symm
  have hdb : HdB hd := by rw [← hhd]; exact hdI_b _ _ _
  have hf := hdb.f
  have hz := hdb.z
  have HNL : Hid (∀ i, i < D.last.length → (D.now i).length = 512) := fun i hi => h.now_len hi
  have HRD : Hid (∀ X, Turn (fun k => k = b) w X → ∀ i : Nat, i < D.last.length → Calls Tryz.prog 100 #[.pointer (some ⟨g, 0, none⟩), .int .i64 (i : Int)] X (ReadEnd X (D.now i) 0)) := fun X hX i hi => by
    have := dkRead_any (w := X) (h.turn hX (fun k hk e => hMb (e ▸ hk)) (fun k hk e => hRb (e ▸ hk))) (i : Int) (WalkArith.wf_i64 (by omega))
    rw [read_on ho hi] at this
    exact this
  have HT : Hid (∀ X, Turn (fun k => k = b) w X → Half X) := fun X hX => hT.turn hX hgb
  have HB := Lib.hid hb
  have HN := Lib.hid hn
  have HE := Lib.hid he
  have HHD := Lib.hid hhd
  have HDB := Lib.hid hdb
  have HS0 := Lib.hid hs0
  have HS1 := Lib.hid hs1
  have H2 := Lib.hid h2
  have H3 := Lib.hid h3
  have H4 := Lib.hid h4
  have H5 := Lib.hid h5
  have HLEN := Lib.hid hlen
  have hbl := lt_of_block hb
  have HI0 : Hid (LdI w b g mv lv nx ((2 + count : Nat) : Int) (each : Int) s0 s1 2 (.int .i64 0) w) := ⟨0, rfl, rfl, hb, Turn.refl _ _⟩
  have HBL := Lib.hid hbl
  clear h hb hMb hRb hT hgb ho hn he hok h1 h2 h3 h4 h5 hs0 hs1 hhd hdb hlen hbl hf hz
  go_enter Tryz.func50, Tryz.ntmps50
  go_wp2
  go_loopg [13] 2 (fun gk s13 wr => LdI w b g mv lv nx ((2 + count : Nat) : Int) (each : Int) s0 s1 gk s13 wr)
  case atStart => exact HI0.out
  case round =>
    clear HI0
    obtain ⟨i, rfl, hik, hbx, ht⟩ := hrel
    have HIK := Lib.hid hik
    have HBX := Lib.hid hbx
    have HTX := Lib.hid ht
    by_cases hlt : i < 2
    · have g1 : (i : Int) < 2 := by omega
      have hw1 : IntKind.i64.wrap ((i : Int) + 1) = (i : Int) + 1 := by rw [IntKind.wrap_i64]; omega
      obtain ⟨hi, hhi⟩ : ∃ hi, hdI s0 s1 i = hi := ⟨_, rfl⟩
      rw [hhi] at hbx HBX
      obtain ⟨sx, hsx⟩ : ∃ sx, D.now i = sx := ⟨_, rfl⟩
      have HRX := Lib.hid (HRD.out wr ht i (by have := HN.out; omega))
      have HXL := Lib.hid (HNL.out i (by have := HN.out; omega))
      rw [hsx] at HRX HXL
      obtain ⟨hx, hhx⟩ : ∃ hx, St.readHd sx = hx := ⟨_, rfl⟩
      have HHX := Lib.hid hhx
      have hnx : hdI s0 s1 (i + 1) = if hi.turn < hx.turn then hx else hi := by
        have h01 : i = 0 ∨ i = 1 := by omega
        rcases h01 with rfl | rfl
        · rw [← hhi, ← hhx, ← hsx, HS0.out]; rfl
        · rw [← hhi, ← hhx, ← hsx, HS1.out]; rfl
      have HNX := Lib.hid hnx
      obtain ⟨c0, c1, c2, c3, c4, c5, c6, c7, c8, c9, c10, cf⟩ := cells11 hbx
      have hxlt := lt_of_block hbx
      have HXLT := Lib.hid hxlt
      clear hbx ht hik hlt hhi hsx hhx hnx hxlt
      by_cases hgt : hi.turn < hx.turn
      · have hn1 := HNX.out
        rw [if_pos hgt] at hn1
        have HN1 := Lib.hid hn1
        have q1 : decide (hx.turn > hi.turn) = true := by simpa using hgt
        clear hn1
        go_wp2_with (first
          | (go_at_call 100; refine HRX.out.mono ?_; rintro e w1 ⟨v1, rfl, hr1, hb1⟩; obtain ⟨a1, p1, rfl, _⟩ := hr1.form; have HR1 := Lib.hid hr1; have HB1 := Lib.hid hb1; clear hr1 hb1)
          | (go_at_call 101; refine (readHead_any (BytesIn.row HR1.out) HXL.out (HT.out _ (HTX.out.thenBelow HB1.out))).mono ?_; rintro e w2 ⟨he, hb2⟩; rw [HHX.out] at he; subst he; have HB2 := Lib.hid hb2; clear hb2))
        have hb3 : Below wr.heap.size wr (w2.alloc (hdO hx)) := (HB1.out.trans (HB2.out.mono HB1.out.size)).alloc (Nat.le_trans HB1.out.size HB2.out.size) _
        have hh3 := heap_alloc_new w2 (hdO hx)
        generalize w2.alloc (hdO hx) = w3 at hb3 hh3 ⊢
        have hbx3 := (hb3.block b HXLT.out).trans HBX.out
        obtain ⟨d0, d1, d2, d3, d4, d5, d6, d7, d8, d9, d10, df⟩ := cells11 hbx3
        obtain ⟨k0, k1, k2, k3, k4, kf⟩ := hd_cells hh3
        have HB3 := Lib.hid hb3
        have HBX3 := Lib.hid hbx3
        have HH3 := Lib.hid hh3
        clear hb3 hh3 hbx3 c0 c1 c2 c3 c4 c5 c6 c7 c8 c9 c10 cf
        go_quiet (fail)
        have e0 : (w3.drewN nq).cell? ⟨w2.heap.size, 0, none⟩ = some (.int .i64 hx.turn) := k0
        have e1 : (w3.drewN nq).cell? ⟨w2.heap.size, 1, none⟩ = some (.int .i64 hx.half) := k1
        have e2 : (w3.drewN nq).cell? ⟨w2.heap.size, 2, none⟩ = some (.int .i64 hx.size) := k2
        have e3 : (w3.drewN nq).cell? ⟨w2.heap.size, 3, none⟩ = some (.int .i64 hx.sum) := k3
        have e4 : (w3.drewN nq).cell? ⟨w2.heap.size, 4, none⟩ = some (.int .i64 hx.age) := k4
        have hb4 : Below wr.heap.size wr (w3.drewN nq) := below_drewN HB3.out nq
        have hbx4 : (w3.drewN nq).heap[b]? = some (storeO mv nx hi g lv ((2 + count : Nat) : Int) (each : Int)) := HBX3.out
        generalize w3.drewN nq = w4 at *
        obtain ⟨f0, f1, f2, f3, f4, f5, f6, f7, f8, f9, f10, ff⟩ := cells11 hbx4
        have HB4 := Lib.hid hb4
        have HBX4 := Lib.hid hbx4
        clear hb4 hbx4
        go_wp2
        go_roundg (gk - 1)
        case measure => have := HIK.out; omega
        case rel =>
          obtain ⟨z1, z2⟩ := store_hd (y0 := hx.turn) (y1 := hx.half) (y2 := hx.size) (y3 := hx.sum) (y4 := hx.age) HBX4.out
          refine ⟨i + 1, by go_num, by have := HIK.out; omega, by rw [HN1.out]; exact z1, (HTX.out.thenBelow HB4.out).trans (Turn.of_chg z2 (M := fun k => k = b) (fun k hk => .inl (by simpa using hk))) (fun k hk => .inl hk)⟩
      · have hn1 := HNX.out
        rw [if_neg hgt] at hn1
        have HN1 := Lib.hid hn1
        have q1 : decide (hx.turn > hi.turn) = false := by simpa using hgt
        clear hn1
        go_wp2_with (first
          | (go_at_call 100; refine HRX.out.mono ?_; rintro e w1 ⟨v1, rfl, hr1, hb1⟩; obtain ⟨a1, p1, rfl, _⟩ := hr1.form; have HR1 := Lib.hid hr1; have HB1 := Lib.hid hb1; clear hr1 hb1)
          | (go_at_call 101; refine (readHead_any (BytesIn.row HR1.out) HXL.out (HT.out _ (HTX.out.thenBelow HB1.out))).mono ?_; rintro e w2 ⟨he, hb2⟩; rw [HHX.out] at he; subst he; have HB2 := Lib.hid hb2; clear hb2))
        have hb3 : Below wr.heap.size wr (w2.alloc (hdO hx)) := (HB1.out.trans (HB2.out.mono HB1.out.size)).alloc (Nat.le_trans HB1.out.size HB2.out.size) _
        have hh3 := heap_alloc_new w2 (hdO hx)
        generalize w2.alloc (hdO hx) = w3 at hb3 hh3 ⊢
        have hbx3 := (hb3.block b HXLT.out).trans HBX.out
        obtain ⟨d0, d1, d2, d3, d4, d5, d6, d7, d8, d9, d10, df⟩ := cells11 hbx3
        obtain ⟨k0, k1, k2, k3, k4, kf⟩ := hd_cells hh3
        have HB3 := Lib.hid hb3
        have HBX3 := Lib.hid hbx3
        have HH3 := Lib.hid hh3
        clear hb3 hh3 hbx3 c0 c1 c2 c3 c4 c5 c6 c7 c8 c9 c10 cf
        go_quiet (fail)
        have HB4 : Hid (Below wr.heap.size wr (w3.drewN nq)) := below_drewN HB3.out nq
        have HBX4 : Hid ((w3.drewN nq).heap[b]? = some (storeO mv nx hi g lv ((2 + count : Nat) : Int) (each : Int))) := HBX3.out
        go_wp2
        go_roundg (gk - 1)
        case measure => have := HIK.out; omega
        case rel => exact ⟨i + 1, by go_num, by have := HIK.out; omega, by rw [HN1.out]; exact HBX4.out, HTX.out.thenBelow HB4.out⟩
    · obtain rfl : i = 2 := by omega
      rw [HHD.out] at hbx HBX
      have hdb := HDB.out
      have hz := hdb.z
      have hf := hdb.f
      have h3 := H3.out
      obtain ⟨sz, hsz⟩ : ∃ sz : Nat, hd.size = (sz : Int) := ⟨hd.size.toNat, by omega⟩
      obtain ⟨fr, hfr⟩ : ∃ fr : Nat, 2 + count = fr := ⟨_, rfl⟩
      obtain ⟨hm, hhm⟩ : ∃ hm : Nat, hd.half.toNat * each = hm := ⟨_, rfl⟩
      have hmul : hd.half * (each : Int) = (hm : Int) := by
        obtain ⟨a, ha⟩ : ∃ a : Nat, hd.half = (a : Int) := ⟨hd.half.toNat, by omega⟩
        rw [← hhm, ha, Int.toNat_natCast]
        simp
      have hmle : hm ≤ each := by
        have : hd.half.toNat * each ≤ 1 * each := Nat.mul_le_mul_right _ (by omega)
        omega
      obtain ⟨cnt, hcnt⟩ : ∃ cnt : Nat, (sz + 511) / 512 = cnt := ⟨_, rfl⟩
      have h4 := H4.out
      have h5 := H5.out
      rw [hsz, Int.toNat_natCast, hfr, hhm, hcnt] at h4 h5
      have HN' : Hid (fr + 2 * each ≤ D.last.length) := by show _ ≤ _; rw [← hfr]; exact HN.out
      have HE' := HE.out
      rw [hfr] at hbx HBX
      have HFR := Lib.hid hfr
      have hszle : sz ≤ each * 512 := by omega
      have hszp : 0 < sz := by
        rcases Nat.eq_zero_or_pos sz with e | e
        · rw [e, List.take_zero] at h4; exact (readImage_pos h4).elim
        · exact e
      obtain ⟨rm, hrm⟩ : ∃ rm, each * 512 = rm := ⟨_, rfl⟩
      have HRM : Hid (∀ n, Calls Tryz.prog 21 #[.pointer (some ⟨b, 0, none⟩)] (wr.drewN n) fun e w' => e = .returned (.int .i64 (rm : Int)) ∧ wr.drewN n = w') := fun n => by
        rw [← hrm]
        exact room_any' (w := wr.drewN n) (hb := hbx) (by omega)
      obtain ⟨c0, c1, c2, c3, c4, c5, c6, c7, c8, c9, c10, cf⟩ := cells11 hbx
      have q0 : (hd.turn == 0) = false := by have := H2.out; rw [beq_eq_false_iff_ne]; exact this
      have q1 : decide ((sz : Int) > (rm : Int)) = false := by simp; omega
      have q2 : decide ((rm : Int) < (sz : Int)) = false := q1
      have q3 : ¬ ((rm : Int) < (sz : Int)) := by omega
      have q4 : decide (rm < sz) = false := by simp; omega
      rw [hsz] at c4
      have g1 : ¬ (((2 : Nat) : Int) < 2) := by omega
      have HCNT := Lib.hid hcnt
      have HSZ := Lib.hid hszle
      have HSP := Lib.hid hszp
      have HHM := Lib.hid hmul
      have HML := Lib.hid hmle
      have H4' := Lib.hid h4
      have H5' := Lib.hid h5
      have HSE := Lib.hid hsz
      clear hbx ht hik hlt hdb hz hf h3 hfr hhm hmul hmle hcnt h4 h5 hszle hszp H2 H3 H4 H5 HN hrm
      go_wp2
      go_quiet ((go_at_call 21; exact wqs1 (HRM.out _)))
      go_wp2
      have hT4 : Turn (fun k => k = b) w (wr.drewN nq) := HTX.out.thenBelow (below_drewN (Below.refl _ _) nq)
      have hb4 : (wr.drewN nq).heap[b]? = some (storeO mv nx hd g lv (fr : Int) (each : Int)) := HBX.out
      generalize wr.drewN nq = W4 at hT4 hb4 ⊢
      have HT4 := Lib.hid hT4
      have HB4 := Lib.hid hb4
      have HJ0 : Hid (LdJ W4 (fun j => D.now (fr + hm + j)) cnt cnt (.slice none 0 0) (.int .i64 0) W4) := ⟨0, rfl, by omega, ⟨Row.nil _ _, fun k h => by simp [Value.ownBlock] at h⟩, Below.refl _ _⟩
      have HSL : Hid (∀ i, i < cnt → (D.now (fr + hm + i)).length = 512) := fun i hi => HNL.out _ (by have := HCNT.out; have := HN'.out; have := HSZ.out; have := HML.out; omega)
      clear hT4 hb4 c0 c1 c2 c3 c4 c5 c6 c7 c8 c9 c10 cf q0 q1 q2 q3 q4 HRM HBX HTX
      go_loopg [7, 8] cnt (fun gk s7 s8 wr => LdJ W4 (fun j => D.now (fr + hm + j)) cnt gk s7 s8 wr)
      case atStart => exact HJ0.out
      case round =>
        clear HJ0
        rename World => wy
        obtain ⟨i, rfl, hik, hrow, hbw⟩ := hrel
        obtain ⟨bi, hbi⟩ : ∃ bi, secsT (fun j => D.now (fr + hm + j)) i = bi := ⟨_, rfl⟩
        have hbl : bi.length = 512 * i := by rw [← hbi]; exact secsT_len _ i (fun j hj => HSL.out j (by omega))
        rw [hbi] at hrow
        have HBI := Lib.hid hbi
        have HBIL := Lib.hid hbl
        obtain ⟨ao, cap, rfl, _⟩ := hrow.form
        have HRW := Lib.hid hrow
        have HBW := Lib.hid hbw
        have HIK := Lib.hid hik
        have HTY : Hid (Turn (fun k => k = b) w wy) := HT4.out.thenBelow hbw
        have hby := (hbw.block b (lt_of_block HB4.out)).trans HB4.out
        have HBY := Lib.hid hby
        obtain ⟨c0, c1, c2, c3, c4, c5, c6, c7, c8, c9, c10, cf⟩ := cells11 hby
        rw [HSE.out] at c4
        by_cases hlt : i < cnt
        · have g1 : (bi.length : Int) < (sz : Int) := by have := HCNT.out; omega
          have HLTT := Lib.hid hlt
          have hle : i ≤ 1000 := by have := HCNT.out; have := HSZ.out; have := HE.out; omega
          have HRX := Lib.hid (HRD.out _ HTY.out (fr + hm + i) (by have := HCNT.out; have := HN'.out; have := HSZ.out; have := HML.out; omega))
          have hfrl : fr ≤ 65536 := by have := HN'.out; have := HLEN.out; omega
          have hmul1 : IntKind.i64.wrap (hd.half * (each : Int)) = (hm : Int) := by rw [HHM.out, IntKind.wrap_i64]; have := HML.out; have := HE.out; omega
          have hmul2 : IntKind.i64.wrap ((fr : Int) + (hm : Int)) = ((fr + hm : Nat) : Int) := by rw [IntKind.wrap_i64]; have := HML.out; have := HE.out; omega
          have hmul3 : IntKind.i64.wrap (((fr + hm : Nat) : Int) + (i : Int)) = ((fr + hm + i : Nat) : Int) := by rw [IntKind.wrap_i64]; have := HML.out; have := HE.out; omega
          have hw1 : IntKind.i64.wrap ((i : Int) + 1) = (i : Int) + 1 := by rw [IntKind.wrap_i64]; omega
          obtain ⟨px, hpx⟩ : ∃ px, fr + hm = px := ⟨_, rfl⟩
          rw [hpx] at hmul2 hmul3 HRX
          obtain ⟨py, hpy⟩ : ∃ py, px + i = py := ⟨_, rfl⟩
          rw [hpy] at hmul3 HRX
          have HNXT : Hid (secsT (fun j => D.now (fr + hm + j)) (i + 1) = bi ++ D.now py) := by show _ = _; rw [secsT_succ, hbi, hpx, hpy]
          have HPL : Hid ((D.now py).length = 512) := by have := HSL.out i hlt; rw [hpx, hpy] at this; exact this
          obtain ⟨pb, hpb⟩ : ∃ pb, D.now py = pb := ⟨_, rfl⟩
          rw [hpb] at HRX HNXT HPL
          have HRXN : Hid (∀ X, Turn (fun k => k = b) w X → Calls Tryz.prog 100 #[.pointer (some ⟨g, 0, none⟩), .int .i64 (py : Int)] X (ReadEnd X pb 0)) := fun X hX => by
            have h1 := HRD.out X hX py (by have := HN'.out; have := HSZ.out; have := HML.out; have := HCNT.out; omega)
            rw [hpb] at h1
            exact h1
          have HSS : Hid (∀ X, Below wy.heap.size wy X → X.cell? ⟨b, 7, none⟩ = some (.pointer (some ⟨g, 0, none⟩)) ∧ X.cell? ⟨b, 9, none⟩ = some (.int .i64 (fr : Int)) ∧ X.cell? ⟨b, 3, none⟩ = some (.int .i64 hd.half) ∧ X.cell? ⟨b, 10, none⟩ = some (.int .i64 (each : Int))) := fun X hX => by
            have e1 := cells11 ((hX.block b (lt_of_block HBY.out)).trans HBY.out)
            exact ⟨e1.2.2.2.2.2.2.2.1, e1.2.2.2.2.2.2.2.2.2.1, e1.2.2.2.1, e1.2.2.2.2.2.2.2.2.2.2.1⟩
          clear hrow hbw hik hbi hbl hby hlt hle hfrl hpx hpy hpb
          go_wp2
          go_region_held3 (fun X => X.cell? ⟨b, 7, none⟩ = some (.pointer (some ⟨g, 0, none⟩)) ∧ X.cell? ⟨b, 9, none⟩ = some (.int .i64 (fr : Int)) ∧ X.cell? ⟨b, 3, none⟩ = some (.int .i64 hd.half) ∧ X.cell? ⟨b, 10, none⟩ = some (.int .i64 (each : Int)))
            (first | exact HSS.out _ (Below.refl _ _).drew | exact HSS.out _ HB1.out)
            (first | (go_at_call 100; refine (HRXN.out _ (HTY.out.thenBelow (Below.refl _ _).drew)).mono ?_; rintro e w1 ⟨v1, rfl, hr1, hb1⟩; obtain ⟨a1, p1, rfl, _⟩ := hr1.form; have HR1 := Lib.hid hr1; have HB1 : Hid (Below wy.heap.size wy w1) := (Below.refl _ _).drew.trans hb1; clear hr1 hb1))
          go_wp2_with (at_builtin; refine wpList_appv (w := w1) (v := .slice ao bi.length cap) rfl _ _ rfl rfl (HRW.out.below HB1.out) rfl (l := pb) (BytesIn.row HR1.out) (fun h => by have e1 := HPL.out; rw [h] at e1; simp at e1) (Nat.le_trans HBW.out.size HB1.out.size) (by have := HPL.out; have := HBIL.out; have := HCNT.out; have := HSZ.out; have := HE.out; have := HIK.out; omega) ?_; intro v2 w2 hr2 ho2; obtain ⟨bb, hbb⟩ : ∃ bb, bi ++ pb = bb := ⟨_, rfl⟩; rw [hbb] at hr2; have HBB := Lib.hid hbb; clear hbb; obtain ⟨a2, c2', rfl, _⟩ := hr2.form; have HR2 := Lib.hid hr2; have HO2 := Lib.hid ho2; clear hr2 ho2)
          go_roundg (gk - 1)
          case measure => have := HIK.out; have := HLTT.out; omega
          case rel => exact ⟨i + 1, by go_num, by have := HIK.out; have := HLTT.out; omega, by rw [HNXT.out, HBB.out]; exact HR2.out, (HBW.out.trans (HB1.out.mono HBW.out.size)).trans (HO2.out.below (Nat.le_trans HBW.out.size HB1.out.size) HRW.out.2)⟩
        · have hic : i = cnt := by omega
          subst hic
          have g1 : ¬ ((bi.length : Int) < (sz : Int)) := by have := HCNT.out; omega
          have hsl : sz ≤ bi.length := by omega
          obtain ⟨g7, rfl⟩ : ∃ g7, ao = some ⟨g7, 0, none⟩ := by
            obtain ⟨g7, c7', e, _⟩ := hrow.shape (fun h => by have := HSP.out; rw [h] at hsl; simp at hsl; omega)
            cases e
            exact ⟨g7, rfl⟩
          obtain ⟨hsli, hrt⟩ := slice_hrow hrow sz hsl
          have h4 := H4'.out
          have h5 := H5'.out
          rw [hbi] at h4 h5
          obtain ⟨bt, hbt⟩ : ∃ bt, bi.take sz = bt := ⟨_, rfl⟩
          have hbtl : bt.length = sz := by rw [← hbt, List.length_take]; omega
          rw [hbt] at h4 h5 hrt
          have HRI : Hid (∀ X, Below wy.heap.size wy X → Calls Tryz.prog 102 #[.slice (some ⟨g7, 0, none⟩) sz cap] X fun e w' => ∃ mb ov, e = .returned (.tuple #[.agg #[.map (some mb), .int .i64 n], .bool true]) ∧ X.heap.size ≤ mb ∧ OMap w' mb ov ∧ ovO ov = o ∧ OvIn w' (fun k => X.heap.size ≤ k ∧ k ≠ mb) ov ∧ Below X.heap.size X w') := fun X hX => readImage_any ((BytesIn.row hrt).below hX) (by rw [hbtl]; have := HSZ.out; have := HE.out; omega) h4
          have HRT := Lib.hid hrt
          have HCRC : Hid (∀ X q, Turn (fun k => k = b) w X → Below wy.heap.size wy X → X.cell? ⟨q, 0, none⟩ = some (.slice (some ⟨g7, 0, none⟩) sz cap) → Calls Tryz.prog 103 #[.slice (some ⟨q, 0, none⟩) 1 1] X fun e w' => e = .returned (.int .u32 hd.sum) ∧ X = w') := fun X q hT hX hc => by
            rw [← h5]
            exact crcSum_any bt X _ _ q (HT.out X hT) (hrt.below hX) (by rw [hbtl]; have := HSZ.out; have := HE.out; omega) hc
          have hsm := HDB.out.s
          have hcv : IntKind.i64.wrap hd.sum = hd.sum := by rw [IntKind.wrap_i64]; omega
          have qs : (hd.sum != hd.sum) = false := by simp
          clear hrow hbw hik hbi hbl hby hlt hsl h4 h5 hbt hbtl hrt hsm
          go_wp2_with (go_at_call 102; refine (HRI.out _ (Below.refl _ _)).mono ?_; rintro e w1 ⟨mb, ov, rfl, hmb, hmap, hovo, hov, hb1⟩; have HMB := Lib.hid hmb; have HMAP := Lib.hid hmap; have HOVO := Lib.hid hovo; have HOV := Lib.hid hov; have HB1 := Lib.hid hb1; clear hmb hmap hovo hov hb1)
          have hb7 : Below wy.heap.size wy (w1.alloc (objO mb n)) := HB1.out.alloc HB1.out.size _
          have hh7 := heap_alloc_new w1 (objO mb n)
          have ha7 : Below w1.heap.size w1 (w1.alloc (objO mb n)) := (Below.refl _ _).alloc (Nat.le_refl _) _
          generalize w1.alloc (objO mb n) = w7 at hb7 hh7 ha7 ⊢
          have HB7 := Lib.hid hb7
          have HH7 := Lib.hid hh7
          have HA7 := Lib.hid ha7
          have hbb7 := (hb7.block b (lt_of_block HBY.out)).trans HBY.out
          have HBB7 := Lib.hid hbb7
          have hss : ∀ X, Below w7.heap.size w7 X → Below w7.heap.size w7 X ∧ X.cell? ⟨b, 5, none⟩ = some (.int .i64 hd.sum) := fun X hX => ⟨hX, (cells11 ((hX.block b (lt_of_block HBB7.out)).trans HBB7.out)).2.2.2.2.2.1⟩
          have HSS7 := Lib.hid hss
          have HAL7 : Hid (∀ X o, (Below w7.heap.size w7 X ∧ X.cell? ⟨b, 5, none⟩ = some (.int .i64 hd.sum)) → Below w7.heap.size w7 (X.alloc o) ∧ (X.alloc o).cell? ⟨b, 5, none⟩ = some (.int .i64 hd.sum)) := fun X o h => HSS7.out _ (h.1.alloc h.1.size o)
          have HC7 : Hid (∀ X q, (Below w7.heap.size w7 X ∧ X.cell? ⟨b, 5, none⟩ = some (.int .i64 hd.sum)) → X.cell? ⟨q, 0, none⟩ = some (.slice (some ⟨g7, 0, none⟩) sz cap) → Calls Tryz.prog 103 #[.slice (some ⟨q, 0, none⟩) 1 1] X fun e w' => e = .returned (.int .u32 hd.sum) ∧ X = w') := fun X q h hc => HCRC.out X q ((HTY.out.thenBelow HB7.out).thenBelow h.1) (HB7.out.trans (h.1.mono HB7.out.size)) hc
          clear hb7 hh7 ha7 hbb7 hss c0 c1 c2 c3 c4 c5 c6 c7 c8 c9 c10 cf
          go_region_held3 (fun X => Below w7.heap.size w7 X ∧ X.cell? ⟨b, 5, none⟩ = some (.int .i64 hd.sum))
            (first | exact HSS7.out _ (Below.refl _ _).drew | assumption | exact HAL7.out _ _ (by assumption))
            (first | (go_at_call 103; refine (HC7.out _ _ (by assumption) (by simp)).mono ?_; rintro e w8 ⟨rfl, rfl⟩))
          have hb9 : Below w7.heap.size w7 (w7.alloc (.cells #[.slice (some ⟨g7, 0, none⟩) sz cap] 44)).drew := ((Below.refl _ _).alloc (Nat.le_refl _) _).drew
          generalize (w7.alloc (.cells #[.slice (some ⟨g7, 0, none⟩) sz cap] 44)).drew = w9 at hb9 ⊢
          have hbb9 := (hb9.block b (lt_of_block HBB7.out)).trans HBB7.out
          have hh9 := (hb9.block w1.heap.size (lt_of_block HH7.out)).trans HH7.out
          obtain ⟨c0, c1, c2, c3, c4, c5, c6, c7, c8, c9, c10, cf⟩ := cells11 hbb9
          have k0 : w9.cell? ⟨w1.heap.size, 0, none⟩ = some (.map (some mb)) := by simp [World.cell?, hh9]
          have k1 : w9.cell? ⟨w1.heap.size, 1, none⟩ = some (.int .i64 n) := by simp [World.cell?, hh9]
          have HB9 := Lib.hid hb9
          have HBB9 := Lib.hid hbb9
          clear hb9 hbb9 hh9 hsli hcv qs
          go_wp2
          go_ret
          obtain ⟨z1, z2⟩ := store_obj (y0 := .map (some mb)) (y1 := n) HBB9.out
          have tz : Turn (fun k => k = b) w9 ((w9.setCell ⟨b, 0, none⟩ (.map (some mb))).setCell ⟨b, 1, none⟩ (.int .i64 n)) := Turn.of_chg z2 (fun k hk => .inl (by simpa using hk))
          have hbl := HBL.out
          have h1 := HT4.out.size
          have h2 := HBW.out.size
          have h3 := HB1.out.size
          have hmb := HMB.out
          have b19 : Below w1.heap.size w1 w9 := HA7.out.trans (HB9.out.mono HA7.out.size)
          refine ⟨rfl, mb, ov, by rw [HFR.out]; exact z1, by omega, (HMAP.out.below b19).turn tz (fun e => by omega), HOVO.out, ?_, ?_⟩
          · refine ((HOV.out.turn (M := fun _ => False) (Turn.of_below b19) (fun _ _ h => h)).turn tz (fun k hk e => by omega)).mono (fun k _ hk => ⟨by omega, hk.2⟩)
          · exact (((HTY.out.thenBelow HB7.out).thenBelow HB9.out)).trans tz (fun k hk => .inl hk)
end Go.Proofs.YtcpgbekcbaelpaaGreatDoor
/- Layer 7: a record is applied. -/
namespace Go.Proofs.YtcpgbekcbaelpaaGreatDoor
open Go.RowKit Go.Maps Wr
set_option linter.unusedVariables false
set_option linter.unusedSimpArgs false
theorem replayObjs_put {dec : List UInt8 → Bool} {next x : Int} {k : Nat} {b : List UInt8} {o : St.Objs} {q : St.Objs × List UInt8 × Int} {id x1 x2 x3 : Int} {b1 b2 sb b3 : List UInt8} (hi : rn 1 1099511627776 b x = (id, b1, x1)) (ht : rn 0 1 b1 x1 = (1, b2, x2)) (hs : rs 16384 b2 x2 = (sb, b3, x3)) (h : St.replayObjs dec next (k + 1) b x o = some q) :
    dec sb = true ∧ x3 = 0 ∧ x2 = 0 ∧ x1 = 0 ∧ x = 0 ∧ 1 ≤ id ∧ id ≤ 1099511627776 ∧ id < next ∧ St.replayObjs dec next k b3 0 (St.oPut id sb o) = some q := by
  rw [St.replayObjs] at h
  rw [hi] at h
  dsimp only at h
  rw [ht] at h
  dsimp only at h
  rw [hs] at h
  dsimp only at h
  rw [if_pos rfl] at h
  split at h
  · rename_i hc
    obtain ⟨h1, h2, h3⟩ := hc
    subst h2
    have h4 := rs_zero hs
    subst h4
    obtain ⟨h5, _, _⟩ := rn_zero ht
    subst h5
    obtain ⟨h6, h7, h8⟩ := rn_zero hi
    exact ⟨h1, rfl, rfl, rfl, h6, h7, h8, h3, h⟩
  · cases h
theorem replayObjs_del {dec : List UInt8 → Bool} {next x : Int} {k : Nat} {b : List UInt8} {o : St.Objs} {q : St.Objs × List UInt8 × Int} {id x1 tv x2 : Int} {b1 b2 : List UInt8} (hi : rn 1 1099511627776 b x = (id, b1, x1)) (ht : rn 0 1 b1 x1 = (tv, b2, x2)) (h1 : tv ≠ 1) (h : St.replayObjs dec next (k + 1) b x o = some q) :
    x2 = 0 ∧ x1 = 0 ∧ x = 0 ∧ 1 ≤ id ∧ id ≤ 1099511627776 ∧ id < next ∧ St.replayObjs dec next k b2 0 (St.oDel id o) = some q := by
  rw [St.replayObjs] at h
  rw [hi] at h
  dsimp only at h
  rw [ht] at h
  dsimp only at h
  rw [if_neg h1] at h
  split at h
  · rename_i hc
    obtain ⟨h2, h3⟩ := hc
    subst h2
    obtain ⟨h5, _, _⟩ := rn_zero ht
    subst h5
    obtain ⟨h6, h7, h8⟩ := rn_zero hi
    exact ⟨rfl, rfl, h6, h7, h8, h3, h⟩
  · cases h
theorem ovPut_len_le (id : Int) (v : Value) (b : List UInt8) (l : OV) : (ovPut id v b l).length ≤ l.length + 1 := by
  unfold ovPut
  rw [ovIns_len]
  have : (ovDel id l).length ≤ l.length := List.length_filter_le _ _
  omega
theorem OMap.isMap {w : World} {b : Nat} {l : OV} (h : OMap w b l) : ∃ es clock, w.heap[b]? = some (.map es clock) := by
  obtain ⟨_, D, ⟨es, clock, hb, _⟩, _⟩ := h
  exact ⟨es, clock, hb⟩
theorem InW.map {M : Nat} {w w' : World} {p mb : Nat} {b : List UInt8} {x : Int} {ov : OV} (h : InW M w p b x) (hm : OMap w mb ov) (hc : Chg [mb] w w') : InW M w' p b x := by
  obtain ⟨es, clock, hmb⟩ := hm.isMap
  obtain ⟨v, hz, ao, cap, rfl, h2, h3, h4⟩ := h
  have hp : p ≠ mb := fun e => by rw [e, hmb] at hz; cases hz
  refine ⟨_, (hc.block p (lt_of_block hz) (by simpa using hp)).trans hz, ao, cap, rfl, h2, h3, fun j hj => ?_⟩
  obtain ⟨g, o, e1, e2, e3, e4⟩ := h4 j hj
  have hg : g ≠ mb := fun e => by rw [e] at e4; simp [World.cell?, hmb] at e4
  exact ⟨g, o, e1, e2, ⟨e3.1, Nat.le_trans e3.2 hc.size⟩, (hc.cell (p := ⟨g, o + j, none⟩) (Nat.lt_of_lt_of_le e3.1 e3.2) (by simpa using hg)).trans e4⟩
def RpI (w w0 : World) (b g mb pr M : Nat) (A : Nat → Prop) (hd : St.Hd2) (lv : Value) (fr ea next nv : Int) (n0 : Nat) (res : St.Objs × List UInt8 × Int) (cnt : Nat) (k : Nat) (s18 : Value) (X : World) : Prop :=
  ∃ (i : Nat) (b' : List UInt8) (x : Int) (ov : OV), s18 = .int .i64 (i : Int) ∧ i + k = cnt ∧ InW M X pr b' x ∧ b'.length ≤ 1000000 ∧ St.replayObjs dk nv k b' x (ovO ov) = some res ∧ OMap X mb ov ∧ OvIn X (fun j => A j ∨ (w.heap.size ≤ j ∧ j ≠ pr)) ov ∧
    X.heap[b]? = some (storeO (.map (some mb)) next hd g lv fr ea) ∧ Turn (fun k => k = mb ∨ k = pr) w0 X ∧ ov.length ≤ n0 + i
set_option maxRecDepth 100000 in
set_option maxHeartbeats 8000000 in
theorem replay_any {w : World} {b g mb : Nat} {ov : OV} {A : Nat → Prop} {hd : St.Hd2} {lv : Value} {fr ea next : Int} {v : Value} {rb : List UInt8} {o' : St.Objs} {n' : Int} (hb : w.heap[b]? = some (storeO (.map (some mb)) next hd g lv fr ea)) (hm : OMap w mb ov) (hv : OvIn w A ov) (hA : ∀ k, A k → k < w.heap.size ∧ k ≠ b ∧ k ≠ mb) (hbm : b ≠ mb)
    (hr : BytesIn w v rb) (hl : rb.length ≤ 1000000) (hn : 0 ≤ next ∧ next ≤ 2199023255552) (hol : ov.length ≤ 1000000000000000) (hok : St.replay dk rb (ovO ov) next = some (o', n')) :
    Calls Tryz.prog 54 #[.pointer (some ⟨b, 0, none⟩), v] w fun e w' => e = .returned (.bool true) ∧ ∃ ov', w'.heap[b]? = some (storeO (.map (some mb)) n' hd g lv fr ea) ∧ OMap w' mb ov' ∧ ovO ov' = o' ∧ OvIn w' (fun k => A k ∨ w.heap.size ≤ k) ov' ∧ Turn (fun k => k = b ∨ k = mb) w w' ∧ ov'.length ≤ ov.length + 67108864 := by
  obtain ⟨⟨nv, nb, nx⟩, hn0⟩ : ∃ a, rn 1 2199023255552 rb 0 = a := ⟨_, rfl⟩
  obtain ⟨⟨cv, cb, cx⟩, hc0⟩ : ∃ a, rn 1 67108864 nb nx = a := ⟨_, rfl⟩
  have hnl : nb.length ≤ 1000000 := by have := rn_le 1 2199023255552 rb 0; rw [hn0] at this; exact Nat.le_trans this hl
  have hcl : cb.length ≤ 1000000 := by have := rn_le 1 67108864 nb nx; rw [hc0] at this; exact Nat.le_trans this hnl
  have hcc : 0 ≤ cv ∧ cv ≤ 67108864 := by have := rn_count (lo := 1) (hi := 67108864) nb nx (by omega) (by omega); rw [hc0] at this; exact this
  have hnc : 0 ≤ nv ∧ nv ≤ 2199023255552 := by have := rn_count (lo := 1) (hi := 2199023255552) rb 0 (by omega) (by omega); rw [hn0] at this; exact this
  have hro : St.replayObjs dk nv cv.toNat cb cx (ovO ov) = some (o', [], 0) ∧ n' = max next nv := by
    unfold St.replay at hok
    rw [hn0] at hok
    dsimp only at hok
    rw [hc0] at hok
    dsimp only at hok
    cases h1 : St.replayObjs dk nv cv.toNat cb cx (ovO ov) with
    | none => rw [h1] at hok; cases hok
    | some p =>
      rw [h1] at hok
      obtain ⟨p1, p2, p3⟩ := p
      dsimp only at hok
      split at hok
      · rename_i hp; obtain ⟨rfl, rfl⟩ := hp; cases hok; exact ⟨rfl, rfl⟩
      · cases hok
  obtain ⟨hro, rfl⟩ := hro
  obtain ⟨cnt, rfl⟩ : ∃ c : Nat, cv = (c : Int) := ⟨cv.toNat, by omega⟩
  rw [Int.toNat_natCast] at hro
  have hcz : (cnt : Int) ≤ 67108864 := hcc.2
  have hHO := open_any v rb w hr hl
  have HO := Lib.hid hHO
  have HRO := Lib.hid hro
  have HN0 := Lib.hid hn0
  have HC0 := Lib.hid hc0
  have HL := Lib.hid hl
  have HNL := Lib.hid hnl
  have HCL := Lib.hid hcl
  have HNC := Lib.hid hnc
  have HNX := Lib.hid hn
  have HB := Lib.hid hb
  have HM := Lib.hid hm
  have HV := Lib.hid hv
  have HA := Lib.hid hA
  have HBM := Lib.hid hbm
  have HOL := Lib.hid hol
  have HBL : Hid (b < w.heap.size ∧ mb < w.heap.size) := ⟨lt_of_block hb, hm.lt⟩
  clear hb hm hv hA hbm hr hl hn hol hok hnl hcl hcc hnc hro hn0 hc0 hHO
  go_enter Tryz.func54, Tryz.ntmps54
  go_wp2_with (first
    | (go_at_call 110; refine HO.out.mono ?_; rintro e w1 ⟨pr, M, rfl, hp1, hp2, hin, hb1⟩; have HP1 := Lib.hid hp1; have HM1 := Lib.hid hp2; have HI1 := Lib.hid hin; have HB1 := Lib.hid hb1; clear hp1 hp2 hin hb1)
    | (go_at_call 111; (with_reducible refine (wNum_fn pr rb 0 1 2199023255552 w1 HI1.out HL.out).mono ?_); rintro e w2 ⟨he, hin, hc⟩; rw [HN0.out] at he hin; dsimp only at he hin; subst he; have HC2 := Lib.hid hc; have HI2 := Lib.hid hin; clear hin hc)
    | (go_at_call 111; (with_reducible refine (wNum_fn pr nb nx 1 67108864 w2 HI2.out HNL.out).mono ?_); rintro e w3 ⟨he, hin, hc⟩; rw [HC0.out] at he hin; dsimp only at he hin; subst he; have HC3 := Lib.hid hc; have HI3 := Lib.hid hin; clear hin hc))
  have hz1 := HB1.out.size
  have hz2 := HC2.out.size
  have hz3 := HC3.out.size
  have hp1 := HP1.out
  have hbl := HBL.out
  have hb3 : Below w.heap.size w w3 := (HB1.out.trans (HC2.out.below hz1 (fun k hk => by simp at hk; omega))).trans (HC3.out.below (by omega) (fun k hk => by simp at hk; omega))
  have HB3 := Lib.hid hb3
  have HZ3 : Hid (w.heap.size ≤ w3.heap.size ∧ M ≤ w3.heap.size ∧ pr < w3.heap.size ∧ w.heap.size ≤ pr) := ⟨by omega, by have := HM1.out; omega, InW.lt HI3.out, hp1⟩
  have HI0 : Hid (RpI w w3 b g mb pr M A hd lv fr ea next nv ov.length (o', [], 0) cnt cnt (.int .i64 0) w3) := ⟨0, cb, cx, ov, rfl, by omega, HI3.out, HCL.out, HRO.out, HM.out.below hb3, (HV.out.turn (M := fun _ => False) (Turn.of_below hb3) (fun _ _ h => h)).mono (fun k _ hk => .inl hk), (hb3.block b hbl.1).trans HB.out, Turn.refl _ _, by omega⟩
  clear hz1 hz2 hz3 hp1 hbl hb3 HC2 HC3 HI1 HI2 HI3 HB1 HP1 HM1 HN0 HC0 HRO HO
  go_loopg [18] cnt (fun gk s18 wr => RpI w w3 b g mb pr M A hd lv fr ea next nv ov.length (o', [], 0) cnt gk s18 wr)
  case atStart => exact HI0.out
  case round =>
    clear HI0
    obtain ⟨i, b', x, ovx, rfl, hik, hin, hbl, hrd, hmap, hov, hbx, htx, hol⟩ := hrel
    have HIK := Lib.hid hik
    have HIN := Lib.hid hin
    have HBL' := Lib.hid hbl
    have HMAP := Lib.hid hmap
    have HOV := Lib.hid hov
    have HBX := Lib.hid hbx
    have HTX := Lib.hid htx
    have HOLX := Lib.hid hol
    have HPN : Hid (pr < wr.heap.size ∧ mb < wr.heap.size ∧ b < wr.heap.size ∧ w3.heap.size ≤ wr.heap.size) := ⟨InW.lt hin, hmap.lt, lt_of_block hbx, htx.size⟩
    by_cases hk : gk = 0
    · subst hk
      rw [St.replayObjs] at hrd
      obtain ⟨hoo, rfl, rfl⟩ : ovO ovx = o' ∧ b' = [] ∧ x = 0 := by simpa using hrd
      have HOO := Lib.hid hoo
      obtain rfl : i = cnt := by omega
      have g1 : ¬ ((i : Int) < (i : Int)) := by omega
      have hx0 := cells11 hbx
      obtain ⟨c0, c1, c2, c3, c4, c5, c6, c7, c8, c9, c10, cf⟩ := hx0
      have hs1 : Chg [b] wr (wr.setCell ⟨b, 1, none⟩ (.int .i64 (max next nv))) := chg_set _ _ _ _
      have hs2 : (wr.setCell ⟨b, 1, none⟩ (.int .i64 (max next nv))).heap[b]? = some (storeO (.map (some mb)) (max next nv) hd g lv fr ea) := (dk_set hbx).trans rfl
      have hi2 : InW M (wr.setCell ⟨b, 1, none⟩ (.int .i64 (max next nv))) pr [] 0 := by
        obtain ⟨v0, hz, ao, cap, rfl, h2, h3, h4⟩ := hin
        refine ⟨_, (hs1.block pr (lt_of_block hz) (by have h1 := HZ3.out; have h2 := HBL.out; simp; omega)).trans hz, ao, cap, rfl, h2, h3, fun j hj => absurd hj (by simp)⟩
      have HE := Lib.hid (end_any pr [] 0 _ hi2)
      have HS1 := Lib.hid hs1
      have HS2 := Lib.hid hs2
      clear hik hin hbl hrd hmap hov hbx htx hol hoo hs1 hs2 hi2
      go_wp2_with (go_at_call 115; refine HE.out.mono ?_; rintro e w10 ⟨he, hc10⟩; rw [if_neg (by simp)] at he; subst he; have HC10 := Lib.hid hc10; clear hc10)
      go_ret
      have hz := HZ3.out
      have hpn := HPN.out
      have hbl := HBL.out
      have hbm := HBM.out
      have t1 : Turn (fun k => k = b) wr (wr.setCell ⟨b, 1, none⟩ (.int .i64 (max next nv))) := Turn.of_chg HS1.out (fun k hk => .inl (by simpa using hk))
      have t2 : Turn (fun k => k = pr) (wr.setCell ⟨b, 1, none⟩ (.int .i64 (max next nv))) w10 := Turn.of_chg HC10.out (fun k hk => .inl (by simpa using hk))
      refine ⟨rfl, ovx, (HC10.out.block b (by have := HS1.out.size; omega) (by simp; omega)).trans HS2.out, (HMAP.out.turn t1 (fun e => hbm e.symm)).turn t2 (fun e => by omega), HOO.out, ?_, ?_, by have := HOLX.out; omega⟩
      · refine ((HOV.out.turn t1 (fun k hk e => ?_)).turn t2 (fun k hk e => ?_)).mono (fun k _ hk => hk.imp_right And.left)
        · rcases hk with hk | hk
          · exact (HA.out k hk).2.1 e
          · omega
        · rcases hk with hk | hk
          · have := (HA.out k hk).1; omega
          · exact hk.2 e
      · have h0 : Turn (fun k => k = b ∨ k = mb) w w3 := Turn.of_below HB3.out
        have h3 : Turn (fun k => k = b ∨ k = mb) w wr := h0.trans HTX.out (fun k hk => by rcases hk with hk | hk; exact .inl (.inr hk); exact .inr (by omega))
        exact (h3.trans t1 (fun k hk => .inl (.inl hk))).trans t2 (fun k hk => .inr (by omega))
    · obtain ⟨k, rfl⟩ : ∃ k, gk = k + 1 := ⟨gk - 1, by omega⟩
      have g1 : (i : Int) < (cnt : Int) := by omega
      have hwi : IntKind.i64.wrap ((i : Int) + 1) = (i : Int) + 1 := by rw [IntKind.wrap_i64]; omega
      obtain ⟨⟨id, b1, x1⟩, hi0⟩ : ∃ a, rn 1 1099511627776 b' x = a := ⟨_, rfl⟩
      obtain ⟨⟨tv, b2, x2⟩, ht0⟩ : ∃ a, rn 0 1 b1 x1 = a := ⟨_, rfl⟩
      have hb1 : b1.length ≤ 1000000 := by have := rn_le 1 1099511627776 b' x; rw [hi0] at this; exact Nat.le_trans this hbl
      have hb2 : b2.length ≤ 1000000 := by have := rn_le 0 1 b1 x1; rw [ht0] at this; exact Nat.le_trans this hb1
      have HB1 := Lib.hid hb1
      have HB2 := Lib.hid hb2
      by_cases htv : tv = 1
      · subst htv
        obtain ⟨⟨sb, b3, x3⟩, hs0⟩ : ∃ a, rs 16384 b2 x2 = a := ⟨_, rfl⟩
        obtain ⟨hdk, rfl, rfl, rfl, rfl, hid1, hid2, hid3, hrr⟩ := replayObjs_put hi0 ht0 hs0 hrd
        have hb3 : b3.length ≤ 1000000 := by have := rs_le 16384 b2 0; rw [hs0] at this; exact Nat.le_trans this hb2
        have hsb : sb.length ≤ 1000000 := by have := rs_len 16384 b2 0; rw [hs0] at this; exact Nat.le_trans this hb2
        have hd2 : (dec sb).2 = 0 := of_decide_eq_true hdk
        obtain ⟨t, ht⟩ : ∃ t, (dec sb).1 = t := ⟨_, rfl⟩
        have HT := Lib.hid ht
        have HD2 := Lib.hid hd2
        have HI0 := Lib.hid hi0
        have HT0 := Lib.hid ht0
        have HS0 := Lib.hid hs0
        have HB3' := Lib.hid hb3
        have HSB := Lib.hid hsb
        have HID : Hid (1 ≤ id ∧ id ≤ 1099511627776 ∧ id < nv) := ⟨hid1, hid2, hid3⟩
        have HRR := Lib.hid hrr
        have q1 : decide (id ≥ nv) = false := by simpa using hid3
        have q2 : decide (nv ≤ id) = false := q1
        clear hik hin hbl hrd hmap hov hbx htx hol hk hi0 ht0 hs0 hdk hid1 hid2 hid3 hrr hb1 hb2 hb3 hsb hd2 ht
        go_wp2_with (first
          |(go_at_call 111; (with_reducible refine (wNum_fn pr b' 0 1 1099511627776 wr HIN.out HBL'.out).mono ?_); rintro e w4 ⟨he, hin, hc⟩; rw [HI0.out] at he hin; dsimp only at he hin; subst he; have HC4 := Lib.hid hc; have HIN4 := Lib.hid hin; clear hin hc)
          |(go_at_call 111; (with_reducible refine (wNum_fn pr b1 0 0 1 w4 HIN4.out HB1.out).mono ?_); rintro e w5 ⟨he, hin, hc⟩; rw [HT0.out] at he hin; dsimp only at he hin; subst he; have HC5 := Lib.hid (HC4.out.then1 hc); have HIN5 := Lib.hid hin; clear hin hc)
          | (go_at_call 112; refine (wStr_fn pr b2 0 16384 w5 HIN5.out HB2.out (by omega)).mono ?_; rintro e w6 ⟨he, hin, hc⟩; rw [HS0.out] at he hin; dsimp only at he hin; subst he; have HC6 := Lib.hid (HC5.out.then1 hc); obtain ⟨v7, hcv7, ⟨c7, rfl⟩, hin7, hb7⟩ := bytesWorld_in w6 sb HSB.out; generalize Lib.bytesWorld w6 5 (bytes sb) = w7 at *; have HIN7 := Lib.hid hin7; have HB7 := Lib.hid hb7; have HI7 := Lib.hid (InW.below hin hb7); clear hin hc hin7 hb7)
          | (go_at_call 87; refine (decode_any _ sb w7 HIN7.out.bytesIn HSB.out).mono ?_; rintro e w8 ⟨v8, rfl, hv8, hb8⟩; rw [HD2.out]; rw [HT.out] at hv8; obtain ⟨ao7, cap7, hve⟩ := hv8.form; replace hve : v8 = .agg #[.int .i64 t.kind, .int .i64 t.num, .string t.text, .slice ao7 t.kids.length cap7] := hve; subst hve; have HB8 := Lib.hid hb8; clear hv8 hb8)
          | (go_at_call 114; (have hal : Below w8.heap.size w8 (w8.alloc (.cells #[.int .i64 t.kind, .int .i64 t.num, .string t.text, .slice ao7 t.kids.length cap7] 33)) := (Below.refl _ _).alloc (Nat.le_refl _) _); generalize w8.alloc (.cells #[.int .i64 t.kind, .int .i64 t.num, .string t.text, .slice ao7 t.kids.length cap7] 33) = w9 at *; have hi9 := InW.below (InW.below HI7.out HB8.out) hal; refine (err_any pr b3 0 w9 hi9).mono ?_; rintro e w9' ⟨rfl, rfl⟩; have hb79 : Below w6.heap.size w6 w9 := (HB7.out.trans (HB8.out.mono HB7.out.size)).trans (hal.mono (Nat.le_trans HB7.out.size HB8.out.size)); have hc9 : Chg [pr] wr w9 := HC6.out.thenBelow (hb79.mono HC6.out.size); have HI9 := Lib.hid hi9; have HC9 := Lib.hid hc9; have HB79 : Hid (Below w7.heap.size w7 w9) := HB8.out.trans (hal.mono HB8.out.size); have hx9 := (hc9.block b HPN.out.2.2.1 (by have h1 := HZ3.out; have h2 := HBL.out; simp; omega)).trans HBX.out; have HX9 := Lib.hid hx9; obtain ⟨d0, _⟩ := cells11 hx9; clear hal hi9 hc9 hx9 hb79)
          | (at_mapUpdate; refine wpList_update_omap (w := w9) rfl _ _ _ rfl (HMAP.out.turn (Turn.of_chg HC9.out (M := fun k => k = pr) (fun k hk => .inl (by simpa using hk))) (fun e => by have h1 := HZ3.out; have h2 := HBL.out; omega)) (by have h1 := HOLX.out; have h2 := HOL.out; have h3 := HIK.out; unfold maxLen; omega) rfl id (.slice (some ⟨w6.heap.size, 0, none⟩) sb.length c7) sb rfl rfl (WalkArith.wf_i64 (by have := HID.out; omega)) ?_; intro w10 hm10 hc10; have HM10 := Lib.hid hm10; have HC10 := Lib.hid hc10; clear hm10 hc10))
        go_roundg k
        case measure => omega
        case rel =>
          have hz := HZ3.out
          have hpn := HPN.out
          have hid := HID.out
          have hbl := HBL.out
          have hbm := HBM.out
          have z6 := HC6.out.size
          have t9 : Turn (fun k => k = pr) wr w9 := Turn.of_chg HC9.out (fun k hk => .inl (by simpa using hk))
          have t10 : Turn (fun k => k = mb) w9 w10 := Turn.of_chg HC10.out (fun k hk => .inl (by simpa using hk))
          have hbx : BIn w10 (fun j => A j ∨ (w.heap.size ≤ j ∧ j ≠ pr)) (.slice (some ⟨w6.heap.size, 0, none⟩) sb.length c7) sb := by
            have h9 : BIn w9 (fun k => k = w6.heap.size) (.slice (some ⟨w6.heap.size, 0, none⟩) sb.length c7) sb := HIN7.out.below HB79.out
            exact (h9.turn t10 (fun k hk e => by omega)).mono (fun k _ hk => .inr ⟨by omega, by omega⟩)
          refine ⟨i + 1, b3, 0, ovPut id (.slice (some ⟨w6.heap.size, 0, none⟩) sb.length c7) sb ovx, by go_num, by have := HIK.out; omega, InW.map HI9.out (HMAP.out.turn t9 (fun e => by omega)) HC10.out, HB3'.out, by rw [ovO_put]; exact HRR.out, HM10.out, ?_, ?_, ?_, ?_⟩
          · refine ((HOV.out.turn t9 (fun k hk e => ?_)).turn t10 (fun k hk e => ?_)).put id hbx
            · rcases hk with hk | hk
              · have := (HA.out k hk).1; omega
              · exact hk.2 e
            · rcases hk with hk | hk
              · exact (HA.out k hk).2.2 e
              · omega
          · exact (HC10.out.block b (by have := HC9.out.size; omega) (by simp; omega)).trans HX9.out
          · exact (HTX.out.trans t9 (fun k hk => .inl (.inr hk))).trans t10 (fun k hk => .inl (.inl hk))
          · have h1 := ovPut_len_le id (.slice (some ⟨w6.heap.size, 0, none⟩) sb.length c7) sb ovx
            have h2 := HOLX.out
            omega
      · obtain ⟨rfl, rfl, rfl, hid1, hid2, hid3, hrr⟩ := replayObjs_del hi0 ht0 htv hrd
        have HI0 := Lib.hid hi0
        have HT0 := Lib.hid ht0
        have HID : Hid (1 ≤ id ∧ id ≤ 1099511627776 ∧ id < nv) := ⟨hid1, hid2, hid3⟩
        have HRR := Lib.hid hrr
        have q1 : decide (id ≥ nv) = false := by simpa using hid3
        have q2 : decide (nv ≤ id) = false := q1
        have q3 : (tv == 1) = false := by simpa using htv
        clear hik hin hbl hrd hmap hov hbx htx hol hk hi0 ht0 hid1 hid2 hid3 hrr hb1 hb2 htv
        go_wp2_with (first
          |(go_at_call 111; (with_reducible refine (wNum_fn pr b' 0 1 1099511627776 wr HIN.out HBL'.out).mono ?_); rintro e w4 ⟨he, hin, hc⟩; rw [HI0.out] at he hin; dsimp only at he hin; subst he; have HC4 := Lib.hid hc; have HIN4 := Lib.hid hin; clear hin hc)
          |(go_at_call 111; (with_reducible refine (wNum_fn pr b1 0 0 1 w4 HIN4.out HB1.out).mono ?_); rintro e w5 ⟨he, hin, hc⟩; rw [HT0.out] at he hin; dsimp only at he hin; subst he; have HC5 := Lib.hid (HC4.out.then1 hc); have HIN5 := Lib.hid hin; clear hin hc)
          | (go_at_call 114; refine (err_any pr b2 0 w5 HIN5.out).mono ?_; rintro e w5' ⟨rfl, rfl⟩; have hx5 := (HC5.out.block b HPN.out.2.2.1 (by have h1 := HZ3.out; have h2 := HBL.out; simp; omega)).trans HBX.out; have HX5 := Lib.hid hx5; obtain ⟨d0, _⟩ := cells11 hx5; clear hx5)
          | (at_delete; refine wpList_delete_omap (w := w5) rfl _ _ rfl (HMAP.out.turn (Turn.of_chg HC5.out (M := fun k => k = pr) (fun k hk => .inl (by simpa using hk))) (fun e => by have h1 := HZ3.out; have h2 := HBL.out; omega)) rfl id rfl (WalkArith.wf_i64 (by have := HID.out; omega)) ?_; intro w10 hm10 hc10; have HM10 := Lib.hid hm10; have HC10 := Lib.hid hc10; clear hm10 hc10))
        go_roundg k
        case measure => omega
        case rel =>
          have hz := HZ3.out
          have hpn := HPN.out
          have hbl := HBL.out
          have hbm := HBM.out
          have t9 : Turn (fun k => k = pr) wr w5 := Turn.of_chg HC5.out (fun k hk => .inl (by simpa using hk))
          have t10 : Turn (fun k => k = mb) w5 w10 := Turn.of_chg HC10.out (fun k hk => .inl (by simpa using hk))
          refine ⟨i + 1, b2, 0, ovDel id ovx, by go_num, by have := HIK.out; omega, InW.map HIN5.out (HMAP.out.turn t9 (fun e => by omega)) HC10.out, HB2.out, by rw [ovO_del]; exact HRR.out, HM10.out, ?_, ?_, ?_, ?_⟩
          · refine ((HOV.out.turn t9 (fun k hk e => ?_)).turn t10 (fun k hk e => ?_)).del id
            · rcases hk with hk | hk
              · have := (HA.out k hk).1; omega
              · exact hk.2 e
            · rcases hk with hk | hk
              · exact (HA.out k hk).2.2 e
              · omega
          · exact (HC10.out.block b (by have := HC5.out.size; omega) (by simp; omega)).trans HX5.out
          · exact (HTX.out.trans t9 (fun k hk => .inl (.inr hk))).trans t10 (fun k hk => .inl (.inl hk))
          · have h1 : (ovDel id ovx).length ≤ ovx.length := List.length_filter_le _ _
            have h2 := HOLX.out
            omega
end Go.Proofs.YtcpgbekcbaelpaaGreatDoor
/- Layer 7: a store is opened. -/
namespace Go.Proofs.YtcpgbekcbaelpaaGreatDoor
open Go.RowKit Go.Maps Wr
set_option linter.unusedVariables false
set_option linter.unusedSimpArgs false
theorem readObjs_len {dec : List UInt8 → Bool} {n : Int} : ∀ (f : Nat) (last : Int) (b : List UInt8) (x : Int) (p : St.Objs × List UInt8), St.readObjs dec n f last b x = some p → p.1.length = f
  | 0, last, b, x, p, h => by
    rw [St.readObjs] at h
    split at h
    · cases h; rfl
    · cases h
  | f + 1, last, b, x, p, h => by
    rw [St.readObjs] at h
    split at h
    · rw [Option.map_eq_some_iff] at h
      obtain ⟨r, hr, rfl⟩ := h
      rw [List.length_cons, readObjs_len f _ _ _ _ hr]
    · cases h
theorem readImage_len {dec : List UInt8 → Bool} {b : List UInt8} {o : St.Objs} {n : Int} (h : St.readImage dec b = some (o, n)) : o.length ≤ 67108864 ∧ 0 ≤ n ∧ n ≤ 2199023255552 := by
  unfold St.readImage at h
  have hn := rn_count (lo := 1) (hi := 2199023255552) b 0 (by omega) (by omega)
  have hc := rn_count (lo := 0) (hi := 67108864) (rn 1 2199023255552 b 0).2.1 (rn 1 2199023255552 b 0).2.2 (by omega) (by omega)
  dsimp only at h
  cases h1 : St.readObjs dec (rn 1 2199023255552 b 0).1 (rn 0 67108864 (rn 1 2199023255552 b 0).2.1 (rn 1 2199023255552 b 0).2.2).1.toNat 0 (rn 0 67108864 (rn 1 2199023255552 b 0).2.1 (rn 1 2199023255552 b 0).2.2).2.1 (rn 0 67108864 (rn 1 2199023255552 b 0).2.1 (rn 1 2199023255552 b 0).2.2).2.2 with
  | none => rw [h1] at h; cases h
  | some p =>
    rw [h1] at h
    have hl := readObjs_len _ _ _ _ _ h1
    dsimp only at h
    split at h
    · cases h; omega
    · cases h
theorem records_len {s : Nat → List UInt8} {count : Nat} {age : Int} (hs : ∀ j, j < count → (s j).length = 512) : ∀ (f : Nat) (next : Int) (at' : Nat), ∀ b ∈ (St.records s count age f next at').1, b.length ≤ 511 * count
  | 0, next, at', b, hb => by rw [St.records] at hb; cases hb
  | f + 1, next, at', b, hb => by
    by_cases hlt : at' < count
    · cases hr : St.recordAt s count age next at' with
      | none => rw [records_none hlt hr] at hb; cases hb
      | some c =>
        rw [records_some hlt hr] at hb
        rcases List.mem_cons.1 hb with e | hb
        · have := recordAt_need hs hr
          rw [e]
          unfold St.need at this
          omega
        · exact records_len hs f _ _ b hb
    · rw [records_no hlt] at hb; cases hb
theorem records_cnt {s : Nat → List UInt8} {count : Nat} {age : Int} : ∀ (f : Nat) (next : Int) (at' : Nat), (St.records s count age f next at').1.length ≤ f
  | 0, next, at' => by rw [St.records]; exact Nat.le_refl _
  | f + 1, next, at' => by
    by_cases hlt : at' < count
    · cases hr : St.recordAt s count age next at' with
      | none => rw [records_none hlt hr]; exact Nat.zero_le _
      | some c =>
        rw [records_some hlt hr, List.length_cons]
        have := records_cnt (s := s) (count := count) (age := age) f (next + 1) (at' + St.need c.length)
        omega
    · rw [records_no hlt]; exact Nat.zero_le _
theorem logOpen_len {count : Nat} {D : St.Dk} {l : St.Lg} {rs : List (List UInt8)} (hs : ∀ j, j < count → (D.now (2 + j)).length = 512) (h : (St.logOpen count D).1 = .ok (l, rs)) : (∀ b ∈ rs, b.length ≤ 511 * count) ∧ rs.length ≤ count ∧ l.first = 2 ∧ l.count = count ∧ 1 ≤ l.age ∧ l.age ≤ 4611686018427387904 := by
  unfold St.logOpen at h
  split at h
  · cases h
  · dsimp only at h
    split at h
    · cases h
    · rename_i hz
      cases h
      have h2 := ageOf_bounds (D.now 2)
      have h3 := ageOf_bounds (D.now 3)
      exact ⟨records_len hs _ _ _, records_cnt _ _ _, rfl, rfl, by show 1 ≤ max (max 0 _) _; omega, by show max (max 0 _) _ ≤ _; omega⟩
theorem open_ok {dec : List UInt8 → Bool} {count each : Nat} {D D' : St.Dk} {s : St.Sto} (h : St.openT dec count each D = (.ok s, D')) :
    ∃ hd o n l0 rs l1, (St.load dec count each D).1 = .ok (hd, o, n) ∧ (St.logOpen count D).1 = .ok (l0, rs) ∧ St.truncates (hd.age - l0.age).toNat hd.age l0 D = (.ok l1, D') ∧ St.replays dec (if l0.age < hd.age then [] else rs) o n = some (s.objs, s.next) ∧ s.hd = hd ∧ s.log = l1 ∧ s.count = count ∧ s.each = each := by
  unfold St.openT at h
  have h1 := St.still_load dec count each D
  unfold St.DM.andThen at h
  cases e1 : St.load dec count each D with
  | mk r d1 =>
    rw [e1] at h h1
    have : d1 = D := h1
    subst this
    cases r with
    | error e => cases h
    | ok p =>
      obtain ⟨hd, o, n⟩ := p
      dsimp only at h
      have h2 := St.still_logOpen count d1
      cases e2 : St.logOpen count d1 with
      | mk r d2 =>
        rw [e2] at h h2
        have : d2 = d1 := h2
        subst this
        cases r with
        | error e => cases h
        | ok q =>
          obtain ⟨l0, rs⟩ := q
          dsimp only at h
          cases e3 : St.truncates (hd.age - l0.age).toNat hd.age l0 d2 with
          | mk r d3 =>
            rw [e3] at h
            cases r with
            | error e => cases h
            | ok l =>
              dsimp only at h
              cases e4 : St.replays dec (if l0.age < hd.age then [] else rs) o n with
              | none => rw [e4] at h; cases h
              | some r => rw [e4] at h; cases h; exact ⟨hd, o, n, l0, rs, l, rfl, rfl, e3, e4, rfl, rfl, rfl, rfl⟩
def TrI (w W3 : World) (g p n3 : Nat) (E : Nat → Prop) (ha : Int) (l1 : St.Lg) (D' : St.Dk) (wz : Nat) (k : Nat) (X : World) : Prop :=
  ∃ (lg : St.Lg) (Dg : St.Dk), k = (ha - lg.age).toNat ∧ St.truncates k ha lg Dg = (.ok l1, D') ∧ DkAt X g Dg (fun j => (E j ∧ j < w.heap.size) ∨ n3 ≤ j) (fun j => (E j ∧ j < w.heap.size) ∨ n3 ≤ j) ∧ X.heap[p]? = some (logO g lg) ∧ lg.first = 2 ∧ 0 ≤ lg.age ∧ Dg.waits.length ≤ wz ∧ Turn (fun j => (E j ∧ j < w.heap.size) ∨ j = p) W3 X
def RqI (W5 : World) (b g mb p n4 : Nat) (A : Nat → Prop) (hd : St.Hd2) (fr ea : Int) (rs : List (List UInt8)) (res : St.Objs × Int) (k : Nat) (s61 : Value) (X : World) : Prop :=
  ∃ (i : Nat) (ov : OV) (next : Int), s61 = .int .i64 (i : Int) ∧ i + k = rs.length ∧ X.heap[b]? = some (storeO (.map (some mb)) next hd g (.pointer (some ⟨p, 0, none⟩)) fr ea) ∧ OMap X mb ov ∧ OvIn X (fun j => A j ∨ n4 ≤ j) ov ∧ St.replays dk (rs.drop i) (ovO ov) next = some res ∧ 0 ≤ next ∧ next ≤ 2199023255552 ∧ ov.length ≤ 67108864 * (i + 1) ∧ Turn (fun j => j = b ∨ j = mb) W5 X
theorem lay_pos {n : Nat} {log : Int} {q : Nat × Nat} (h : St.layT n log = some q) : 3 ≤ q.1 ∧ 1 ≤ q.2 ∧ (q.1 : Int) = log ∧ 2 + q.1 + 2 * q.2 ≤ n := by
  unfold St.layT at h
  split at h
  · cases h
  · split at h
    · cases h
    · rename_i h1 h2
      cases h
      have hx : 0 ≤ (n : Int) - 2 - log := by
        rcases Int.lt_or_le ((n : Int) - 2 - log) 0 with hx | hx
        · exfalso
          have : (n : Int) - 2 - log = -1 ∨ (n : Int) - 2 - log = -2 := by omega
          rcases this with e | e <;> rw [e] at h2 <;> exact h2 (by decide)
        · exact hx
      have he := Int.tdiv_eq_ediv_of_nonneg (b := 2) hx
      show 3 ≤ log.toNat ∧ 1 ≤ (((n : Int) - 2 - log).tdiv 2).toNat ∧ ((log.toNat : Nat) : Int) = log ∧ 2 + log.toNat + 2 * (((n : Int) - 2 - log).tdiv 2).toNat ≤ n
      rw [he] at h2 ⊢
      omega
theorem replays_cons {dec : List UInt8 → Bool} {b : List UInt8} {l : List (List UInt8)} {o : St.Objs} {n : Int} {r : St.Objs × Int} (h : St.replays dec (b :: l) o n = some r) : ∃ o' n', St.replay dec b o n = some (o', n') ∧ St.replays dec l o' n' = some r := by
  rw [St.replays] at h
  cases h1 : St.replay dec b o n with
  | none => rw [h1] at h; cases h
  | some p => rw [h1] at h; exact ⟨p.1, p.2, rfl, h⟩
theorem replay_next {dec : List UInt8 → Bool} {b : List UInt8} {o o' : St.Objs} {n n' : Int} (h : St.replay dec b o n = some (o', n')) (hn : 0 ≤ n ∧ n ≤ 2199023255552) : 0 ≤ n' ∧ n' ≤ 2199023255552 := by
  unfold St.replay at h
  have hr := rn_count (lo := 1) (hi := 2199023255552) b 0 (by omega) (by omega)
  dsimp only at h
  split at h
  · cases h
  · split at h
    · cases h; omega
    · cases h
theorem truncate_ok {l l' : St.Lg} {d d' : St.Dk} (h : l.truncate d = (.ok l', d')) : l' = { l with age := l.age + 1, next := 0, at' := 2 } := by
  unfold St.Lg.truncate St.DM.andThen at h
  cases h1 : St.writeD (((l.first : Nat) : Int) + (1 - (l.age + 1) % 2)) (St.pad (St.logHead (l.age + 1))) d with
  | mk r d1 =>
    rw [h1] at h
    cases r with
    | error e => cases h
    | ok u =>
      dsimp only at h
      cases h2 : St.barrierD d1 with
      | mk r d2 =>
        rw [h2] at h
        cases r with
        | error e => cases h
        | ok u => cases h; rfl
set_option maxRecDepth 100000 in
set_option maxHeartbeats 8000000 in
theorem open_any' {w : World} {g : Nat} {D D' : St.Dk} {E : Nat → Prop} {s : St.Sto} {log : Int} {count each : Nat} (h : DkAt w g D E E) (hEh : ¬ E 0) (hT : Half w) (ho : D.off = false) (hw : D.waits.length ≤ 100000) (hlay : St.layT D.last.length log = some (count, each)) (he : each ≤ 1000) (hc : count ≤ 1000) (hok : St.openT dk count each D = (.ok s, D')) :
    Calls Tryz.prog 13 #[.pointer (some ⟨g, 0, none⟩), .int .i64 log] w fun e w' => ∃ b, e = .returned (.tuple #[.pointer (some ⟨b, 0, none⟩), .int .i64 0]) ∧ Turn E w w' ∧ ∃ E' F, SdIn w' b g s D' E' F ∧ (∀ k, E' k → E k ∨ w.heap.size ≤ k) ∧ ∀ k, F k → w.heap.size ≤ k := by
  obtain ⟨hd, o, n, l0, rs, l1, k1, k2, k3, k4, rfl, k6, k7, k8⟩ := open_ok hok
  obtain ⟨p1, p2, rfl, p4⟩ := lay_pos hlay
  dsimp only at p1 p2 p4
  have hlen := h.len
  obtain ⟨m1, m2, m3, m4, m5, m6⟩ := logOpen_len (fun j hj => h.now_len (by omega)) k2
  have hld := load_ok ho p4 (by omega) k1
  obtain ⟨r1, r2, r3⟩ := readImage_len hld.2.2.2.1
  have hdb : HdB s.hd := by rw [hld.1]; exact laterHd_b (laterHd_b noHd_b _) _
  have ha := hdb.a
  have hD : ∀ X, Below w.heap.size w X → DkAt X g D E E := fun X hX => h.below hX
  have HD := Lib.hid hD
  have hcl := h.clip
  have HCL := Lib.hid hcl
  have HLAY := Lib.hid (lay_any h (count : Int) (by omega))
  rw [hlay] at HLAY
  have HT := Lib.hid hT
  have HHL := Lib.hid hT.lt
  have HEH := Lib.hid hEh
  have HO := Lib.hid ho
  have HW := Lib.hid hw
  have HP := Lib.hid p4
  have K1 := Lib.hid k1
  have K2 := Lib.hid k2
  have K3 := Lib.hid k3
  have K4 := Lib.hid k4
  have HRS := Lib.hid m1
  have HRL := Lib.hid m2
  have HL0 : Hid (l0.first = 2 ∧ l0.count = count ∧ 1 ≤ l0.age ∧ l0.age ≤ 4611686018427387904) := ⟨m3, m4, m5, m6⟩
  have HON : Hid (o.length ≤ 67108864 ∧ 0 ≤ n ∧ n ≤ 2199023255552) := ⟨r1, r2, r3⟩
  have HA := Lib.hid ha
  have HC3 := Lib.hid p1
  have HE1 := Lib.hid he
  have HC1 := Lib.hid hc
  have HS : Hid (s.log = l1 ∧ s.count = count ∧ s.each = each) := ⟨k6, k7, k8⟩
  clear h hEh hT ho hw hlay he hc hok k1 k2 k3 k4 k6 k7 k8 p1 p2 p4 m1 m2 m3 m4 m5 m6 hld r1 r2 r3 hdb ha hD hcl hlen
  go_enter Tryz.func13, Tryz.ntmps13
  go_wp2_with (first
    | (go_at_call 49; refine HLAY.out.mono ?_; rintro e w1 ⟨hb1, b, rfl, hbz, hblk⟩; dsimp only at hblk; have HB1 := Lib.hid hb1; have HBZ := Lib.hid hbz; have HBK := Lib.hid hblk; have hEb : ¬ Clip E w b := (fun hk => by have := hk.2; omega); have HEB := Lib.hid hEb; clear hb1 hbz hblk hEb)
    | (go_at_call 50; go_loud (refine (load_any (HCL.out.below HB1.out) HBK.out HEB.out HEB.out (HT.out.below HB1.out) (by have h1 := HHL.out; have h2 := HBZ.out; omega) HO.out HP.out HE1.out K1.out).mono ?_; rintro e w2 ⟨rfl, mb, ov, hblk2, hmb, hmap, hovo, hov, ht2⟩; have HBK2 := Lib.hid hblk2; have HMB := Lib.hid hmb; have HMAP := Lib.hid hmap; have HOVO := Lib.hid hovo; have HOV := Lib.hid hov; have HT2 := Lib.hid ht2; have HB2 : Hid (Below w.heap.size w w2) := HB1.out.trans (ht2.below HB1.out.size (fun k hk => by have := HBZ.out; omega)); clear hblk2 hmb hmap hovo hov ht2))
    | (go_at_call 51; refine (walOpen_any (HD.out _ HB2.out) (HT.out.below HB2.out) HO.out count HC3.out (by have := HP.out; omega) K2.out).mono ?_; rintro e w3 ⟨p, v, rfl, hpz, hplg, hrbs, hb3⟩; have HPZ := Lib.hid hpz; have HPL := Lib.hid hplg; obtain ⟨ao, ac, hv, hvr⟩ := hrbs.form; subst hv; have HRB := Lib.hid hrbs; have HVR := Lib.hid hvr; have HB3 := Lib.hid hb3; have hx3 := (hb3.block b (lt_of_block HBK2.out)).trans HBK2.out; have HX3 := Lib.hid hx3; obtain ⟨c0, c1, c2, c3, c4, c5, c6, c7, c8, c9, c10, cf⟩ := cells11 hx3; clear hpz hplg hrbs hb3 hvr hx3))
  have hx3 := HX3.out
  have hbp : b < w2.heap.size := lt_of_block HBK2.out
  have hpz := HPZ.out
  have hs3 : (w3.setCell ⟨b, 8, none⟩ (.pointer (some ⟨p, 0, none⟩))).heap[b]? = some (storeO (.map (some mb)) n s.hd g (.pointer (some ⟨p, 0, none⟩)) ((2 + count : Nat) : Int) (each : Int)) := (dk_set hx3).trans rfl
  have hc3 : Chg [b] w3 (w3.setCell ⟨b, 8, none⟩ (.pointer (some ⟨p, 0, none⟩))) := chg_set _ _ _ _
  generalize w3.setCell ⟨b, 8, none⟩ (.pointer (some ⟨p, 0, none⟩)) = W3 at hs3 hc3 ⊢
  have t3 : Turn (fun k => k = b) w3 W3 := Turn.of_chg hc3 (fun k hk => .inl (by simpa using hk))
  have hpb : p ≠ b := by omega
  have hpl3 : W3.heap[p]? = some (logO g l0) := (t3.block p (lt_of_block HPL.out) hpb).trans HPL.out
  have hrb3 : RBs W3 (p + 1) (.slice ao rs.length ac) rs := HRB.out.turn t3 (fun k h1 h2 e => by omega)
  have hmb := HMB.out
  have hmbl := HMAP.out.lt
  have hbz := HBZ.out
  have z1 := HB1.out.size
  have hbb1 := lt_of_block HBK.out
  have hbmb : b ≠ mb := by omega
  have hmap3 : OMap W3 mb ov := (HMAP.out.below HB3.out).turn t3 (fun e => hbmb e.symm)
  have hov3 : OvIn W3 (fun k => w.heap.size ≤ k ∧ k < w2.heap.size ∧ k ≠ mb ∧ k ≠ b) ov := by
    have h1 : OvIn w2 (fun k => (w1.heap.size ≤ k ∧ k ≠ mb) ∧ k < w2.heap.size) ov := HOV.out.mono (fun k hl hk => ⟨hk, hl⟩)
    exact ((h1.turn (M := fun _ => False) (Turn.of_below HB3.out) (fun _ _ h => h)).turn t3 (fun k hk e => by omega)).mono (fun k _ hk => ⟨by omega, hk.2, hk.1.2, by omega⟩)
  have hbw3 : Below w.heap.size w W3 := (HB2.out.trans (HB3.out.mono HB2.out.size)).trans (t3.below (Nat.le_trans HB2.out.size HB3.out.size) (fun k hk => by omega))
  have z23 := HB3.out.size
  have z3 := t3.size
  have z2 := HB2.out.size
  have HQ : Hid (w.heap.size ≤ b ∧ b < w2.heap.size ∧ b ≠ mb ∧ w.heap.size ≤ mb ∧ mb < w2.heap.size ∧ w2.heap.size ≤ p ∧ p < W3.heap.size ∧ w.heap.size ≤ w2.heap.size) := ⟨by omega, by omega, hbmb, by omega, by omega, by omega, lt_of_block hpl3, z2⟩
  have HS3 := Lib.hid hs3
  have HPL3 := Lib.hid hpl3
  have HRB3 := Lib.hid hrb3
  have HMAP3 := Lib.hid hmap3
  have HOV3 := Lib.hid hov3
  have HBW3 := Lib.hid hbw3
  have HAGE : Hid (∀ X : World, X.heap[p]? = some (logO g l0) → ∀ m, Calls Tryz.prog 52 #[.pointer (some ⟨p, 0, none⟩)] (X.drewN m) fun e w' => e = .returned (.int .i64 l0.age) ∧ X.drewN m = w') := fun X hX m => walAge_any (w := X.drewN m) (l := l0) hX
  obtain ⟨c0, c1, c2, c3, c4, c5, c6, c7, c8, c9, c10, cf⟩ := cells11 hs3
  clear hx3 hbp hpz hs3 hc3 t3 hpb hpl3 hrb3 hmb hmbl hbz z1 hbb1 hbmb hmap3 hov3 hbw3 z23 z3 z2
  obtain ⟨q, hq1⟩ : ∃ q, decide (l0.age < s.hd.age) = q := ⟨_, rfl⟩
  have HQ1 := Lib.hid hq1
  go_upto_region 11 with fail
  go_quiet ((go_at_call 52; exact wqs1 (HAGE.out _ HPL3.out _)))
  clear hq1
  dsimp only [Exit.then]
  apply_assumption
  go_cut [9] (fun s9 wc => RBs wc (p + 1) s9 (if l0.age < s.hd.age then [] else rs) ∧ Below W3.heap.size W3 wc)
  case first =>
    cases q with
    | true =>
      have HIF : Hid ((if l0.age < s.hd.age then ([] : List (List UInt8)) else rs) = []) := if_pos (of_decide_eq_true HQ1.out)
      go_wp2
      go_meet
      rw [HIF.out]
      exact ⟨RBs.nil _ _, below_drewN (Below.refl _ _) _⟩
    | false =>
      have HIF : Hid ((if l0.age < s.hd.age then ([] : List (List UInt8)) else rs) = rs) := if_neg (of_decide_eq_false HQ1.out)
      go_wp2
      go_meet
      rw [HIF.out]
      exact ⟨HRB3.out.below (below_drewN (Below.refl _ _) _), below_drewN (Below.refl _ _) _⟩
  obtain ⟨hrb, hbc⟩ := hcut
  obtain ⟨rsx, hrsx⟩ : ∃ rsx, (if l0.age < s.hd.age then [] else rs) = rsx := ⟨_, rfl⟩
  have hrl : (∀ x ∈ rsx, x.length ≤ 511 * count) ∧ rsx.length ≤ count := by
    rw [← hrsx]
    split
    · exact ⟨(fun x hx => by cases hx), Nat.zero_le _⟩
    · exact ⟨HRS.out, HRL.out⟩
  have hk4 := K4.out
  rw [hrsx] at hrb hk4
  have HK4 := Lib.hid hk4
  have HRLX := Lib.hid hrl
  obtain ⟨ax, cx, hv9, hle9, hmx9, hsh9⟩ := hrb.form
  subst hv9
  have HRBX := Lib.hid hrb
  have HBC := Lib.hid hbc
  have HSH9 := Lib.hid hsh9
  have hq := HQ.out
  have hwc : Below w.heap.size w wc := HBW3.out.trans (hbc.mono HBW3.out.size)
  have hk3 := K3.out
  have hdk : DkAt wc g D (fun j => (E j ∧ j < w.heap.size) ∨ wc.heap.size ≤ j) (fun j => (E j ∧ j < w.heap.size) ∨ wc.heap.size ≤ j) := (HCL.out.below hwc).mono (fun k _ hk => .inl hk) (fun k _ hk => .inl hk)
  have HT0 : Hid (TrI w wc g p wc.heap.size E s.hd.age l1 D' 200000 (s.hd.age - l0.age).toNat wc) := ⟨l0, D, rfl, hk3, hdk, (hbc.block p hq.2.2.2.2.2.2.1).trans HPL3.out, HL0.out.1, by have := HL0.out; omega, by have := HW.out; omega, Turn.refl _ _⟩
  have hxc := (hbc.block b (by omega)).trans HS3.out
  have HXC := Lib.hid hxc
  have HWC := Lib.hid hwc
  clear hrb hbc hrl hk4 hsh9 hle9 hmx9 hq hwc hk3 hdk hrsx hxc c0 c1 c2 c3 c4 c5 c6 c7 c8 c9 c10 cf HAGE
  go_wp2
  go_loopg [11] (s.hd.age - l0.age).toNat (fun gk s11 wr => TrI w wc g p wc.heap.size E s.hd.age l1 D' 200000 gk wr)
  case atStart => exact HT0.out
  case round =>
    clear HT0
    obtain ⟨lg, Dg, rfl, htr, hdk, hpl, hl2, hag, hwt, htx⟩ := hrel
    have hq := HQ.out
    have hEb : ∀ j, w.heap.size ≤ j → j < wc.heap.size → ¬ ((E j ∧ j < w.heap.size) ∨ wc.heap.size ≤ j) := fun j h1 h2 h => by rcases h with h | h <;> omega
    have hEb2 : ∀ j, w.heap.size ≤ j → j ≠ p → ¬ ((E j ∧ j < w.heap.size) ∨ j = p) := fun j h1 h2 h => by rcases h with h | h <;> omega
    have hzc := HBC.out.size
    have hxr := (htx.block b (by omega) (hEb2 b hq.1 (by omega))).trans HXC.out
    obtain ⟨c0, c1, c2, c3, c4, c5, c6, c7, c8, c9, c10, cf⟩ := cells11 hxr
    have HAGE : Hid (∀ m, Calls Tryz.prog 52 #[.pointer (some ⟨p, 0, none⟩)] (wr.drewN m) fun e w' => e = .returned (.int .i64 lg.age) ∧ wr.drewN m = w') := fun m => walAge_any (w := wr.drewN m) (l := lg) hpl
    have HTR := Lib.hid htr
    have HDK := Lib.hid hdk
    have HPLG := Lib.hid hpl
    have HLG : Hid (lg.first = 2 ∧ 0 ≤ lg.age ∧ Dg.waits.length ≤ 200000) := ⟨hl2, hag, hwt⟩
    have HTX := Lib.hid htx
    have HXR := Lib.hid hxr
    have HEb := Lib.hid hEb
    have HEb2 := Lib.hid hEb2
    have HZC := Lib.hid hzc
    by_cases hlt : lg.age < s.hd.age
    · have q1 : decide (lg.age < s.hd.age) = true := by simpa using hlt
      obtain ⟨m, hm⟩ : ∃ m, (s.hd.age - lg.age).toNat = m + 1 := ⟨(s.hd.age - lg.age).toNat - 1, by omega⟩
      rw [hm, St.truncates, if_pos hlt] at htr
      cases h1 : lg.truncate Dg with
      | mk r Dh =>
        cases r with
        | error e => rw [andThen_no h1] at htr; cases htr
        | ok lh =>
          rw [andThen_ok h1] at htr
          have hlh := truncate_ok h1
          have hwe := St.truncate_empty h1
          have hha : Half wr := (HT.out.below HWC.out).turn htx (fun h => by rcases h with h | h; exact HEH.out h.1; have := HHL.out; omega)
          have HTRC := Lib.hid (fun m => walTruncate_any (w := wr.drewN m) (hdk.below (below_drewN (Below.refl _ _) m)) hpl (hEb p (by omega) (by omega)) (hEb p (by omega) (by omega)) (fun h => by rcases h with h | h; exact HEH.out h.1; have := HHL.out; have := HWC.out.size; omega) (hha.below (below_drewN (Below.refl _ _) m)) (by rw [hl2]; omega) ⟨hag, by have := HA.out; show lg.age + 1 ≤ 4611686018427387904; omega⟩ (by omega))
          simp only [h1] at HTRC
          have HM := Lib.hid hm
          have HTR2 := Lib.hid htr
          have HLH := Lib.hid hlh
          have HWE := Lib.hid hwe
          have HLT := Lib.hid hlt
          clear htr hdk hpl hl2 hag hwt htx hxr hq hEb hEb2 hzc hlt hm h1 hlh hwe hha HTR
          go_wp2
          go_quiet ((go_at_call 52; exact wqs1 (HAGE.out _)))
          go_wp2_with (go_at_call 53; refine (HTRC.out _).mono ?_; rintro e w5 ⟨he, hd5, hp5, ht5⟩; subst he; have HD5 := Lib.hid hd5; have HP5 := Lib.hid hp5; have HT5 := Lib.hid ht5; clear hd5 hp5 ht5)
          go_roundg m
          case measure => have := HM.out; omega
          case rel =>
            have hq := HQ.out
            have hzc := HZC.out
            have hzr := HTX.out.size
            have hg : ∀ k, Gro (fun j => (E j ∧ j < w.heap.size) ∨ wc.heap.size ≤ j) (wr.drewN nq).heap.size k → (E k ∧ k < w.heap.size) ∨ wc.heap.size ≤ k := fun k hk => by
              rcases hk with hk | hk
              · exact hk
              · exact .inr (Nat.le_trans hzr hk)
            have h5 := HP5.out
            rw [show lgAfter lg (Except.ok lh) = lh from rfl] at h5
            have hag : lh.age = lg.age + 1 := by rw [HLH.out]
            refine ⟨lh, Dh, by have := HM.out; omega, HTR2.out, HD5.out.mono (fun k _ hk => hg k hk) (fun k _ hk => hg k hk), h5, by rw [HLH.out]; exact HLG.out.1, by have := HLG.out; omega, by rw [HWE.out]; exact Nat.zero_le _, ?_⟩
            refine (HTX.out.thenBelow (below_drewN (Below.refl _ _) nq)).trans HT5.out (fun k hk => ?_)
            rcases hk with (hk | hk) | hk
            · exact .inl (.inl hk)
            · exact .inr hk
            · exact .inl (.inr hk)
    · have hz : (s.hd.age - lg.age).toNat = 0 := by omega
      rw [hz, St.truncates] at htr
      obtain ⟨rfl, rfl⟩ : lg = l1 ∧ Dg = D' := by
        unfold St.DM.ret at htr
        cases htr
        exact ⟨rfl, rfl⟩
      have q1 : decide (lg.age < s.hd.age) = false := by simpa using hlt
      clear htr hdk hpl hl2 hag hwt htx hxr hq hEb hEb2 hzc hlt hz HTR
      go_wp2
      go_quiet ((go_at_call 52; exact wqs1 (HAGE.out _)))
      have hb5 : Below wr.heap.size wr (wr.drewN nq) := below_drewN (Below.refl _ _) nq
      have hx5 : (wr.drewN nq).heap[b]? = some (storeO (.map (some mb)) n s.hd g (.pointer (some ⟨p, 0, none⟩)) ((2 + count : Nat) : Int) (each : Int)) := HXR.out
      have hp5 : (wr.drewN nq).heap[p]? = some (logO g lg) := HPLG.out
      have hd5 := HDK.out.below hb5
      have ht5 : Turn (fun j => (E j ∧ j < w.heap.size) ∨ j = p) wc (wr.drewN nq) := HTX.out.thenBelow hb5
      generalize wr.drewN nq = W5 at hb5 hx5 hp5 hd5 ht5 ⊢
      have hq := HQ.out
      have hEb2 := HEb2.out
      have hzc := HZC.out
      have hz5 := ht5.size
      have hcb : Below W3.heap.size W3 wc := HBC.out
      have hnE : ∀ k, (w.heap.size ≤ k ∧ k < w2.heap.size ∧ k ≠ mb ∧ k ≠ b) → ¬ ((E k ∧ k < w.heap.size) ∨ k = p) := fun k hk e => by rcases e with e | e <;> omega
      have hm5 : OMap W5 mb ov := (HMAP3.out.below hcb).turn ht5 (fun e => by rcases e with e | e <;> omega)
      have hv5 : OvIn W5 (fun k => w.heap.size ≤ k ∧ k < w2.heap.size ∧ k ≠ mb ∧ k ≠ b) ov := (HOV3.out.turn (M := fun _ => False) (Turn.of_below hcb) (fun _ _ h => h)).turn ht5 hnE
      have hr5 : RBs W5 (p + 1) (.slice ax rsx.length cx) rsx := HRBX.out.turn ht5 (fun k h1 h2 e => by rcases e with e | e <;> omega)
      have hol : ov.length ≤ 67108864 := by have h1 := HON.out.1; rw [← HOVO.out, ovO_len] at h1; exact h1
      have HQ0 : Hid (RqI W5 b g mb p W5.heap.size (fun k => w.heap.size ≤ k ∧ k < w2.heap.size ∧ k ≠ mb ∧ k ≠ b) s.hd ((2 + count : Nat) : Int) (each : Int) rsx (s.objs, s.next) rsx.length (.int .i64 0) W5) := ⟨0, ov, n, rfl, by omega, hx5, hm5, hv5.mono (fun k _ hk => .inl hk), by rw [List.drop_zero, HOVO.out]; exact HK4.out, HON.out.2.1, HON.out.2.2, by omega, Turn.refl _ _⟩
      have HP5 := Lib.hid hp5
      have HD5 := Lib.hid hd5
      have HT5 := Lib.hid ht5
      have HR5 := Lib.hid hr5
      have HZ5 := Lib.hid hz5
      clear hb5 hx5 hp5 hd5 ht5 hq hEb2 hzc hz5 hcb hnE hm5 hv5 hr5 hol c0 c1 c2 c3 c4 c5 c6 c7 c8 c9 c10 cf HAGE
      go_wp2
      go_loopg [61] rsx.length (fun gk s61 wr => RqI W5 b g mb p W5.heap.size (fun k => w.heap.size ≤ k ∧ k < w2.heap.size ∧ k ≠ mb ∧ k ≠ b) s.hd ((2 + count : Nat) : Int) (each : Int) rsx (s.objs, s.next) gk s61 wr)
      case atStart => exact HQ0.out
      case round =>
        clear HQ0
        rename World => wy
        obtain ⟨i, ovx, nx, rfl, hik, hbx, hmx, hvx, hrx, hn0, hn1, hlx, htx⟩ := hrel
        have hq := HQ.out
        have hz5 := HZ5.out
        have hzc := HZC.out
        have HMX := Lib.hid hmx
        have HVX := Lib.hid hvx
        have HBX := Lib.hid hbx
        have HTXX := Lib.hid htx
        have HIK := Lib.hid hik
        have HLX := Lib.hid hlx
        by_cases hlt : i < rsx.length
        · obtain ⟨rb, hrb⟩ : ∃ rb, rsx[i]? = some rb := ⟨_, List.getElem?_eq_getElem hlt⟩
          have hdr : rsx.drop i = rb :: rsx.drop (i + 1) := by
            rw [List.drop_eq_getElem_cons hlt]
            rw [List.getElem?_eq_getElem hlt] at hrb
            cases hrb
            rfl
          rw [hdr] at hrx
          obtain ⟨o', n', hr1, hr2⟩ := replays_cons hrx
          obtain ⟨hn2, hn3⟩ := replay_next hr1 ⟨hn0, hn1⟩
          obtain ⟨g9, hg9, hg9l⟩ := HSH9.out (fun h => by rw [h] at hlt; simp at hlt)
          subst hg9
          have hrx5 : RBs wy (p + 1) (.slice (some ⟨g9, 0, none⟩) rsx.length cx) rsx := HR5.out.turn htx (fun k h1 h2 e => by rcases e with e | e <;> omega)
          obtain ⟨xv, hxv, hxb⟩ := hrx5.at hrb
          have hxbin := hxb.bytesIn
          obtain ⟨ax', cx', rfl, _⟩ := hxb
          have hrl := HRLX.out
          have hrbl := hrl.1 rb (List.mem_of_getElem? hrb)
          have hic : i ≤ 1000 := by have := HC1.out; omega
          have HRP := Lib.hid (replay_any (A := fun k => (w.heap.size ≤ k ∧ k < w2.heap.size ∧ k ≠ mb ∧ k ≠ b) ∨ (W5.heap.size ≤ k ∧ k < wy.heap.size)) hbx hmx (hvx.mono (fun k hl hk => hk.imp_right (fun h => ⟨h, hl⟩))) (fun k hk => ⟨by rcases hk with hk | hk <;> have := htx.size <;> omega, by rcases hk with hk | hk <;> omega, by rcases hk with hk | hk <;> omega⟩) hq.2.2.1 hxbin (by have := HC1.out; omega) ⟨hn0, hn1⟩ (by omega) hr1)
          have HN2 : Hid (0 ≤ n' ∧ n' ≤ 2199023255552) := ⟨hn2, hn3⟩
          have HR2 := Lib.hid hr2
          have g1 : (i : Int) < (rsx.length : Int) := by omega
          have hwi : IntKind.i64.wrap ((i : Int) + 1) = (i : Int) + 1 := by rw [IntKind.wrap_i64]; omega
          have HZY : Hid (W5.heap.size ≤ wy.heap.size) := htx.size
          clear hik hbx hmx hvx hrx hn0 hn1 hlx htx hlt hdr hr1 hr2 hn2 hn3 hg9l hrx5 hxbin hrl hrbl hic hrb hq hz5 hzc
          go_wp2_with (go_at_call 54; refine HRP.out.mono ?_; rintro e w6 ⟨rfl, ov6, hb6, hm6, ho6, hv6, ht6, hl6⟩; have HB6 := Lib.hid hb6; have HM6 := Lib.hid hm6; have HO6 := Lib.hid ho6; have HV6 := Lib.hid hv6; have HT6 := Lib.hid ht6; have HL6 := Lib.hid hl6; clear hb6 hm6 ho6 hv6 ht6 hl6)
          go_roundg (gk - 1)
          case measure => have := HIK.out; omega
          case rel => exact ⟨i + 1, ov6, n', by go_num, by have := HIK.out; omega, HB6.out, HM6.out, HV6.out.mono (fun k _ hk => by rcases hk with (hk | hk) | hk; exact .inl hk; exact .inr hk.1; exact .inr (Nat.le_trans HZY.out hk)), by rw [HO6.out]; exact HR2.out, HN2.out.1, HN2.out.2, by have := HL6.out; have := HLX.out; omega, HTXX.out.trans HT6.out (fun k hk => .inl hk)⟩
        · obtain rfl : i = rsx.length := by omega
          have g1 : ¬ ((rsx.length : Int) < (rsx.length : Int)) := by omega
          rw [List.drop_length, St.replays] at hrx
          obtain ⟨e1, e2⟩ : ovO ovx = s.objs ∧ nx = s.next := by
            simp only [Option.some.injEq, Prod.mk.injEq] at hrx
            exact hrx
          have HE12 : Hid (ovO ovx = s.objs ∧ nx = s.next) := ⟨e1, e2⟩
          clear hik hbx hmx hvx hrx hn0 hn1 hlx htx hlt e1 e2 hq hz5 hzc
          go_wp2
          go_ret2
          have hq := HQ.out
          have hz5 := HZ5.out
          have hzc := HZC.out
          have hzy := HTXX.out.size
          have hwc := HWC.out.size
          have hs := HS.out
          have hbx := HBX.out
          rw [HE12.out.2] at hbx
          have hne : ∀ k, (k = b ∨ k = mb) → ¬ (((E k ∧ k < w.heap.size) ∨ wc.heap.size ≤ k) ∧ k < W5.heap.size) := fun k hk e => by rcases hk with rfl | rfl <;> rcases e.1 with e | e <;> omega
          have hpx : wy.heap[p]? = some (logO g s.log) := by
            rw [hs.1]
            exact (HTXX.out.block p (lt_of_block HP5.out) (fun e => by rcases e with e | e <;> omega)).trans HP5.out
          have hpl := lt_of_block hpx
          have hbl := lt_of_block hbx
          have hml := HMX.out.lt
          have hhl := HHL.out
          have tall : Turn E w wy := by
            have h1 : Turn E w wc := Turn.of_below HWC.out
            have h2 : Turn E w W5 := h1.trans HT5.out (fun k hk => by rcases hk with hk | hk; exact .inl hk.1; exact .inr (by omega))
            exact h2.trans HTXX.out (fun k hk => .inr (by rcases hk with hk | hk <;> omega))
          refine ⟨b, rfl, tall, fun k => ((E k ∧ k < w.heap.size) ∨ wc.heap.size ≤ k) ∧ k < W5.heap.size, fun k => w.heap.size ≤ k ∧ k < wy.heap.size ∧ ¬ (((E k ∧ k < w.heap.size) ∨ wc.heap.size ≤ k) ∧ k < W5.heap.size), ⟨?_, ⟨mb, p, ovx, ⟨?_, HMX.out, HE12.out.1, ?_, hpx, ⟨by omega, hbl, hne b (.inl rfl)⟩, ⟨by omega, hml, hne mb (.inr rfl)⟩, ⟨by omega, hpl, fun e => by rcases e.1 with e | e <;> omega⟩, hq.2.2.1, by omega, by omega⟩⟩, fun k hk => by omega, fun k hk => hk.2.1, fun k hk hf => hf.2.2 hk, HT.out.turn tall HEH.out, fun hk => by rcases hk.1 with h | h; exact HEH.out h.1; omega, fun hk => by have := hk.1; omega⟩, fun k hk => by rcases hk.1 with h | h; exact .inl h.1; exact .inr (by omega), fun k hk => hk.1⟩
          · exact HD5.out.clip.turn HTXX.out (fun k hk e => hne k e hk) (fun k hk e => hne k e hk)
          · rw [hs.2.1, hs.2.2]
            exact hbx
          · refine HVX.out.mono (fun k hl hk => ?_)
            rcases hk with hk | hk
            · exact ⟨⟨hk.1, hl, fun e => by rcases e.1 with e | e <;> omega⟩, hk.2.2.2, hk.2.2.1, by omega⟩
            · exact ⟨⟨by omega, hl, fun e => by have := e.2; omega⟩, by omega, by omega, by omega⟩
end Go.Proofs.YtcpgbekcbaelpaaGreatDoor
