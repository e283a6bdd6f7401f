/- Texts of the proof, in build order: DkW1, DkW2, DkW3, DkW4, DkW5. -/
import Derived.Test.YtcpgbekcbaelpaaGreatDoorF25
import Derived.Test.YtcpgbekcbaelpaaGreatDoorF16
import Derived.Lib.SliceRun
set_option linter.unusedVariables false
set_option linter.unusedSimpArgs false
set_option linter.unusedSectionVars false
/- Layer 4: a disk's power, and what it costs; sectors that are read. -/
namespace Go.Proofs.YtcpgbekcbaelpaaGreatDoor
open Go.RowKit Go.Maps Wr
set_option linter.unusedVariables false
set_option linter.unusedSimpArgs false
theorem dk_set {w : World} {p o : Nat} {c : Array Value} {u : Value} {t : TypeId} {fz : Nat × Nat} (h : w.heap[p]? = some (.cells c t fz)) : (w.setCell ⟨p, o, none⟩ u).heap[p]? = some (.cells (c.setIfInBounds o u) t fz) := by
  have hlt := lt_of_block h
  have h' : w.heap[p] = .cells c t fz := by simpa [Array.getElem?_eq_getElem hlt] using h
  show (w.heap.modify p _)[p]? = _
  rw [Array.getElem?_eq_getElem (by simpa using hlt), Array.getElem_modify_self, h']
  rfl
theorem chg_set (w : World) (p o : Nat) (u : Value) : Chg [p] w (w.setCell ⟨p, o, none⟩ u) := (Chg.refl [p] w).setCell (.inl (by simp)) u
theorem Chg.then1 {F : List Nat} {a b c : World} (h : Chg F a b) (k : Chg F b c) : Chg F a c := h.trans k (Within.refl _ _)
set_option maxRecDepth 100000 in
theorem dkOn_any {w : World} {g gl cl gm : Nat} {vw : Value} {sx : Int} {vs : List Value} {ws : List WT} {D : St.Dk} {M R : Nat → Prop} (h : DkIn w g gl cl gm vw sx vs ws D M R) :
    Calls Tryz.prog 121 #[.pointer (some ⟨g, 0, none⟩)] w fun e w' => e = .returned (.int .i64 (if D.off = true then 8 else 0)) ∧ w = w' := by
  obtain ⟨c0, c1, c2, c3, c4, c5, cf⟩ := cells6 h.blk
  clear c0 c1 c2 c3 c5
  generalize D.off = o at *
  clear h
  cases o <;>
  · go_enter Tryz.func121, Tryz.ntmps121
    go_wp2
    go_ret
    exact ⟨rfl, rfl⟩
theorem wf_bounds {l : Int} (h : (Lit.int .i64 l).wf = true) : -9223372036854775808 ≤ l ∧ l ≤ 9223372036854775807 := by
  unfold Lit.wf at h
  rw [Bool.and_eq_true, decide_eq_true_eq, decide_eq_true_eq] at h
  exact h
def SpendEnd (w : World) (g gl cl gm : Nat) (vw : Value) (vs : List Value) (ws : List WT) (D : St.Dk) (M R : Nat → Prop) (e : Ending) (w' : World) : Prop :=
  e = .returned (.int .i64 D.spend.2) ∧ Chg [g] w w' ∧ ∃ sx, DkIn w' g gl cl gm vw sx vs ws D.spend.1 M R
set_option maxRecDepth 100000 in
set_option maxHeartbeats 1000000 in
theorem dkSpend_any {w : World} {g gl cl gm : Nat} {vw : Value} {sx : Int} {vs : List Value} {ws : List WT} {D : St.Dk} {M R : Nat → Prop} (h : DkIn w g gl cl gm vw sx vs ws D M R) :
    Calls Tryz.prog 123 #[.pointer (some ⟨g, 0, none⟩)] w (SpendEnd w g gl cl gm vw vs ws D M R) := by
  obtain ⟨c0, c1, c2, c3, c4, c5, cf⟩ := cells6 h.blk
  obtain ⟨b1, b2⟩ := wf_bounds h.lwf
  have HH := Lib.hid h
  obtain ⟨l, hl⟩ : ∃ l, D.left = l := ⟨_, rfl⟩
  rw [hl] at c3 b1 b2
  have HL := Lib.hid hl
  clear h c0 c1 c2 hl
  by_cases h0 : l = 0
  · subst h0
    go_enter Tryz.func123, Tryz.ntmps123
    go_wp2
    go_ret
    have hs : D.spend = ({ D with off := true }, 8) := by unfold St.Dk.spend; rw [if_pos HL.out]
    refine ⟨by rw [hs]; rfl, chg_set _ _ _ _, sx, ?_⟩
    rw [hs]
    have hb := (dk_set (o := 4) (u := .bool true) HH.out.blk).trans rfl
    exact HH.out.power (chg_set _ _ _ _) D.left true sx HH.out.lwf D.steps hb
  · have z0 : (l == 0) = false := by simpa using h0
    have H0 := Lib.hid h0
    clear h0
    by_cases h1 : 0 < l
    · have H1 := Lib.hid h1
      have q1 : (decide (l > 0)) = true := by simpa using h1
      go_enter Tryz.func123, Tryz.ntmps123
      go_wp2
      go_ret
      have hs : D.spend = ({ D with left := D.left - 1, steps := D.steps + 1 }, 0) := by unfold St.Dk.spend; rw [if_neg (by rw [HL.out]; exact H0.out), if_pos (by rw [HL.out]; exact H1.out)]
      refine ⟨by rw [hs]; rfl, (chg_set _ _ _ _).then1 (chg_set _ _ _ _), wrap64 (sx + 1), ?_⟩
      rw [hs, HL.out]
      have hb := (dk_set (o := 5) (u := .int .i64 (wrap64 (sx + 1))) (dk_set (o := 3) (u := .int .i64 (l - 1)) HH.out.blk)).trans rfl
      exact HH.out.power ((chg_set _ _ _ _).then1 (chg_set _ _ _ _)) (l - 1) D.off _ (WalkArith.wf_i64 (by omega)) (D.steps + 1) hb
    · have H1 := Lib.hid h1
      have q1 : (decide (l > 0)) = false := by simpa using h1
      go_enter Tryz.func123, Tryz.ntmps123
      go_wp2
      go_ret
      have hs : D.spend = ({ D with steps := D.steps + 1 }, 0) := by unfold St.Dk.spend; rw [if_neg (by rw [HL.out]; exact H0.out), if_neg (by rw [HL.out]; have := H1.out; omega)]
      refine ⟨by rw [hs]; rfl, chg_set _ _ _ _, wrap64 (sx + 1), ?_⟩
      rw [hs]
      have hb := (dk_set (o := 5) (u := .int .i64 (wrap64 (sx + 1))) HH.out.blk).trans rfl
      exact HH.out.power (chg_set _ _ _ _) D.left D.off _ HH.out.lwf (D.steps + 1) hb
end Go.Proofs.YtcpgbekcbaelpaaGreatDoor
/- Layer 4: is a sector there, how many are there; a sector is read. -/
namespace Go.Proofs.YtcpgbekcbaelpaaGreatDoor
open Go.RowKit Go.Maps Wr
set_option linter.unusedVariables false
set_option linter.unusedSimpArgs false
section
variable {w : World} {g gl cl gm : Nat} {vw : Value} {sx : Int} {vs : List Value} {ws : List WT} {D : St.Dk} {M R : Nat → Prop}
def thereB (n : Nat) (i : Int) : Bool := decide (0 ≤ i ∧ i < n)
theorem there_yes {n : Nat} {i : Int} (h : 0 ≤ i ∧ i < n) : thereB n i = true := by simp [thereB, h]
theorem there_no {n : Nat} {i : Int} (h : ¬ (0 ≤ i ∧ i < n)) : thereB n i = false := decide_eq_false h
set_option maxRecDepth 100000 in
theorem dkThere_any (h : DkIn w g gl cl gm vw sx vs ws D M R) (i : Int) :
    Calls Tryz.prog 122 #[.pointer (some ⟨g, 0, none⟩), .int .i64 i] w fun e w' => e = .returned (.bool (thereB vs.length i)) ∧ w = w' := by
  obtain ⟨c0, _, _, _, _, _, _⟩ := cells6 h.blk
  have hbig : (vs.length : Int) ≤ 65536 := by have := h.big; omega
  generalize vs.length = n at *
  clear h
  by_cases h0 : 0 ≤ i
  · by_cases h1 : i < (n : Int)
    · have HB : Hid (thereB n i = true) := there_yes ⟨h0, h1⟩
      go_enter Tryz.func122, Tryz.ntmps122
      go_wp2
      go_ret
      rw [HB.out]
      exact ⟨rfl, rfl⟩
    · have HB : Hid (thereB n i = false) := there_no (fun h => h1 h.2)
      go_enter Tryz.func122, Tryz.ntmps122
      go_wp2
      go_ret
      rw [HB.out]
      exact ⟨rfl, rfl⟩
  · have HB : Hid (thereB n i = false) := there_no (fun h => h0 h.1)
    go_enter Tryz.func122, Tryz.ntmps122
    go_wp2
    go_ret
    rw [HB.out]
    exact ⟨rfl, rfl⟩
set_option maxRecDepth 100000 in
theorem dkCount_any {w : World} {g : Nat} {D : St.Dk} {M R : Nat → Prop} (h : DkAt w g D M R) :
    Calls Tryz.prog 99 #[.pointer (some ⟨g, 0, none⟩)] w fun e w' => e = .returned (.int .i64 (D.last.length : Int)) ∧ w = w' := by
  obtain ⟨gl, cl, gm, vw, sx, vs, ws, h⟩ := h
  obtain ⟨c0, _, _, _, _, _, _⟩ := cells6 h.blk
  rw [h.len]
  generalize vs.length = n at *
  clear h
  go_enter Tryz.func99, Tryz.ntmps99
  go_wp2
  go_ret
  exact ⟨rfl, rfl⟩
set_option maxRecDepth 100000 in
theorem dkBare_any {A : Nat → Prop} {v : Value} {b : List UInt8} (h : SecIs w A v b) :
    Calls Tryz.prog 75 #[v] w (RowEnd w w.heap.size b) := by
  rcases h with ⟨rfl, rfl⟩ | ⟨hl, h⟩
  · have hq := Lib.run_eql_slice_nil (P := Tryz.prog) w 44 5 none 0 0 0 0 Tryz.underlying44
    have hm : (Instr.makeSlice 44 (.int .i64 512) (.int .i64 512)).run Tryz.prog w = _ := run_mk_bytes 512 (by omega) w
    go_enter Tryz.func75, Tryz.ntmps75
    go_wp2
    go_ret
    exact ⟨_, rfl, mk_row w 512 (by omega), (Below.refl _ _).alloc (Nat.le_refl _) _⟩
  · have HC := Lib.hid (clone_any v b w h.bytesIn (by omega))
    obtain ⟨ao, cap, rfl, _, _, _, h5⟩ := h
    have hlp : 0 < b.length := by omega
    clear hl
    obtain ⟨k, o, rfl, _⟩ := h5 0 hlp
    clear h5
    have hq := Lib.run_eql_slice_nil (P := Tryz.prog) w 44 5 (some ⟨k, o, none⟩) b.length cap 0 0 Tryz.underlying44
    go_enter Tryz.func75, Tryz.ntmps75
    go_wp2_with (go_at_call 124; refine HC.out.mono ?_; rintro e w1 ⟨v1, rfl, hr, hb⟩; have HR := Lib.hid hr; have HB := Lib.hid hb; obtain ⟨a1, p1, rfl, _⟩ := hr.form; clear hr hb)
    go_ret
    exact ⟨_, rfl, HR.out, HB.out⟩
def ReadEnd (w : World) (b : List UInt8) (x : Int) (e : Ending) (w' : World) : Prop := ∃ v, e = .returned (.tuple #[v, .int .i64 x]) ∧ ByteRow w' w.heap.size v b ∧ Below w.heap.size w w'
theorem lookV (h : DkIn w g gl cl gm vw sx vs ws D M R) (i : Int) (hi : (Lit.int .i64 i).wf = true) : (Instr.lookup 98 (.map (some gm)) (.int .i64 i) true).run Tryz.prog w = .ok (.tuple #[(nowV ws i).getD (.slice none 0 0), .bool (nowV ws i).isSome]) w :=
  h.map.look Tryz.underlying3 Tryz.underlying98 (by kernel_rfl) hi
theorem now_find (i : Nat) : ∀ ws : List WT, (ws.find? fun x => (x.1 : Int) == (i : Int)) = ws.find? fun x => x.1 == i
  | [] => rfl
  | x :: l => by
    rw [List.find?_cons, List.find?_cons, now_find i l]
    by_cases e : x.1 = i
    · subst e; simp
    · have e1 : (x.1 == i) = false := by simpa using e
      have e2 : ((x.1 : Int) == (i : Int)) = false := by
        rw [beq_eq_false_iff_ne]
        exact fun h => e (by omega)
      rw [e1, e2]
theorem now_some (h : DkIn w g gl cl gm vw sx vs ws D M R) {i : Nat} {x : WT} (hf : (ws.reverse.find? fun x => x.1 == i) = some x) : D.now i = x.2.2 := by
  unfold St.Dk.now
  rw [h.wseq, ← List.map_reverse, List.find?_map]
  have e : ((fun x : Nat × List UInt8 => x.1 == i) ∘ fun x : WT => (x.1, x.2.2)) = fun x : WT => x.1 == i := rfl
  rw [e, hf]
  rfl
theorem now_none (h : DkIn w g gl cl gm vw sx vs ws D M R) {i : Nat} (hf : (ws.reverse.find? fun x => x.1 == i) = none) : D.now i = D.last.getD i [] := by
  unfold St.Dk.now
  rw [h.wseq, ← List.map_reverse, List.find?_map]
  have e : ((fun x : Nat × List UInt8 => x.1 == i) ∘ fun x : WT => (x.1, x.2.2)) = fun x : WT => x.1 == i := rfl
  rw [e, hf]
  rfl
set_option maxRecDepth 100000 in
set_option maxHeartbeats 2000000 in
theorem dkRead_any {w : World} {g : Nat} {D : St.Dk} {M R : Nat → Prop} (h : DkAt w g D M R) (i : Int) (hi : (Lit.int .i64 i).wf = true) :
    Calls Tryz.prog 100 #[.pointer (some ⟨g, 0, none⟩), .int .i64 i] w (ReadEnd w (D.read i).1 (D.read i).2) := by
  obtain ⟨gl, cl, gm, vw, sx, vs, ws, h⟩ := h
  obtain ⟨c0, c1, _, _, _, _, _⟩ := cells6 h.blk
  have HON := Lib.hid (dkOn_any h)
  have HTH := Lib.hid (dkThere_any h i)
  have HL := Lib.hid (lookV h i hi)
  have hlen := h.len
  have HH := Lib.hid h
  by_cases ho : D.off = true
  · have hr : D.read i = ([], 8) := by unfold St.Dk.read; rw [if_pos ho]
    rw [hr]
    rw [if_pos ho] at HON
    clear h hlen HL HTH c0 c1
    go_enter Tryz.func100, Tryz.ntmps100
    go_wp2_with (go_at_call 121; refine HON.out.mono ?_; rintro e w1 ⟨rfl, rfl⟩)
    go_ret2
    exact ⟨_, rfl, nil_row _ _, Below.refl _ _⟩
  · rw [if_neg ho] at HON
    by_cases ht : 0 ≤ i ∧ i < vs.length
    · rw [there_yes ht] at HTH
      obtain ⟨k, rfl⟩ : ∃ k : Nat, i = k := ⟨i.toNat, by omega⟩
      have hk : k < vs.length := by omega
      have hr : D.read (k : Int) = (D.now k, 0) := by unfold St.Dk.read; rw [if_neg ho, if_neg (by rw [hlen]; omega), Int.toNat_natCast]
      rw [hr]
      have hfe : nowV ws (k : Int) = (ws.reverse.find? fun x => x.1 == k).map (·.2.1) := by unfold nowV; rw [now_find]
      cases hf : ws.reverse.find? (fun x => x.1 == k) with
      | some x =>
        rw [hf] at hfe
        rw [now_some h hf]
        have hx := (h.was x (List.mem_reverse.1 (List.mem_of_find?_eq_some hf))).2
        have HB := Lib.hid (dkBare_any hx)
        rw [hfe] at HL
        have l0 := HL.out
        dsimp only [Option.map_some, Option.getD_some, Option.isSome_some] at l0
        generalize x.2.1 = xv at *
        clear h hlen HL hfe hf hx c0 ho ht hk hr
        go_enter Tryz.func100, Tryz.ntmps100
        go_wp2_with (first
          | (go_at_call 121; refine HON.out.mono ?_; rintro e w1 ⟨rfl, rfl⟩)
          | (go_at_call 122; refine HTH.out.mono ?_; rintro e w1 ⟨rfl, rfl⟩)
          | (go_at_call 75; refine HB.out.mono ?_; rintro e w1 ⟨v1, rfl, hr1, hb1⟩; have HR1 := Lib.hid hr1; have HB1 := Lib.hid hb1; clear hr1 hb1))
        go_ret2
        exact ⟨_, rfl, HR1.out, HB1.out⟩
      | none =>
        rw [hf] at hfe
        rw [now_none h hf]
        obtain ⟨v, hv⟩ : ∃ v, vs[k]? = some v := ⟨_, List.getElem?_eq_getElem hk⟩
        have HB := Lib.hid (dkBare_any (h.secs k v hv))
        have p0 := (h.row.cellAt k hk).trans hv
        rw [hfe] at HL
        have l0 := HL.out
        dsimp only [Option.map_none, Option.getD_none, Option.isSome_none] at l0
        have g1 : (k : Int) < (vs.length : Int) := by omega
        have hbig : (vs.length : Int) ≤ 65536 := by have := h.big; omega
        generalize vs.length = n at *
        clear h hlen HL hfe hf ho ht hk hr hv HH
        go_enter Tryz.func100, Tryz.ntmps100
        go_wp2_with (first
          | (go_at_call 121; refine HON.out.mono ?_; rintro e w1 ⟨rfl, rfl⟩)
          | (go_at_call 122; refine HTH.out.mono ?_; rintro e w1 ⟨rfl, rfl⟩)
          | (go_at_call 75; refine HB.out.mono ?_; rintro e w1 ⟨v1, rfl, hr1, hb1⟩; have HR1 := Lib.hid hr1; have HB1 := Lib.hid hb1; clear hr1 hb1))
        go_ret2
        exact ⟨_, rfl, HR1.out, HB1.out⟩
    · rw [there_no ht] at HTH
      have hr : D.read i = ([], 1) := by unfold St.Dk.read; rw [if_neg ho, if_pos (by rw [hlen]; exact ht)]
      rw [hr]
      clear h hlen HL c0 c1 ho ht hr
      go_enter Tryz.func100, Tryz.ntmps100
      go_wp2_with (first
          | (go_at_call 121; refine HON.out.mono ?_; rintro e w1 ⟨rfl, rfl⟩)
          | (go_at_call 122; refine HTH.out.mono ?_; rintro e w1 ⟨rfl, rfl⟩))
      go_ret2
      exact ⟨_, rfl, nil_row _ _, Below.refl _ _⟩
end
end Go.Proofs.YtcpgbekcbaelpaaGreatDoor
/- Layer 4: a sector is written. -/
namespace Go.Proofs.YtcpgbekcbaelpaaGreatDoor
open Go.RowKit Go.Maps Wr
set_option linter.unusedVariables false
set_option linter.unusedSimpArgs false
def DkEnd (w : World) (g : Nat) (M R : Nat → Prop) (r : St.Dk × Int) (e : Ending) (w' : World) : Prop :=
  e = .returned (.int .i64 r.2) ∧ DkAt w' g r.1 (Gro M w.heap.size) (Gro R w.heap.size) ∧ Turn M w w'
def IsCells (w : World) (k : Nat) : Prop := ∃ c t fz, w.heap[k]? = some (.cells c t fz)
def DkAtM (w : World) (g gm : Nat) (D : St.Dk) (M R : Nat → Prop) : Prop := ∃ gl cl vw sx vs ws, DkIn w g gl cl gm vw sx vs ws D M R
theorem DkAt.atM {w : World} {g : Nat} {D : St.Dk} {M R : Nat → Prop} (h : DkAt w g D M R) : ∃ gm, DkAtM w g gm D M R := by
  obtain ⟨gl, cl, gm, vw, sx, vs, ws, h⟩ := h
  exact ⟨gm, gl, cl, vw, sx, vs, ws, h⟩
theorem DkAtM.at_ {w : World} {g gm : Nat} {D : St.Dk} {M R : Nat → Prop} (h : DkAtM w g gm D M R) : DkAt w g D M R := by
  obtain ⟨gl, cl, vw, sx, vs, ws, h⟩ := h
  exact ⟨gl, cl, gm, vw, sx, vs, ws, h⟩
theorem DkAtM.turn {w w' : World} {g gm : Nat} {D : St.Dk} {M R Q : Nat → Prop} (h : DkAtM w g gm D M R) (ht : Turn Q w w') (hM : ∀ k, M k → ¬ Q k) (hR : ∀ k, R k → ¬ Q k) : DkAtM w' g gm D M R := by
  obtain ⟨gl, cl, vw, sx, vs, ws, h⟩ := h
  exact ⟨gl, cl, vw, sx, vs, ws, { h with
    blk := (ht.block _ (lt_of_block h.blk) (hM _ h.m0)).trans h.blk
    row := h.row.turn ht (fun k hk => by cases hk; exact hM _ h.m1)
    secs := fun i v hv => (h.secs i v hv).turn ht (fun k hk => hR k hk.1)
    wts := h.wts.turn ht (fun k hk => hM k (h.m3 k hk))
    map := h.map.turn ht (hM _ h.m2)
    was := fun x hx => ⟨(h.was x hx).1, (h.was x hx).2.turn ht (fun k hk => hR k hk.1)⟩ }⟩
theorem DkAtM.below {w w' : World} {g gm : Nat} {D : St.Dk} {M R : Nat → Prop} (h : DkAtM w g gm D M R) (hb : Below w.heap.size w w') : DkAtM w' g gm D M R := h.turn (Q := fun _ => False) (Turn.of_below hb) (fun _ _ h => h) (fun _ _ h => h)
theorem DkAtM.mono {w : World} {g gm : Nat} {D : St.Dk} {M R M' R' : Nat → Prop} (h : DkAtM w g gm D M R) (hM : ∀ k, k < w.heap.size → M k → M' k) (hR : ∀ k, k < w.heap.size → R k → R' k) : DkAtM w g gm D M' R' := by
  obtain ⟨gl, cl, vw, sx, vs, ws, h⟩ := h
  exact ⟨gl, cl, vw, sx, vs, ws, { h with
    secs := fun i v hv => (h.secs i v hv).mono (fun k hl hk => ⟨hR k hl hk.1, hk.2⟩)
    was := fun x hx => ⟨(h.was x hx).1, (h.was x hx).2.mono (fun k hl hk => ⟨hR k hl hk.1, hk.2⟩)⟩
    m0 := hM _ (lt_of_block h.blk) h.m0
    m1 := hM _ (h.row.lt rfl) h.m1
    m2 := hM _ h.map.lt h.m2
    m3 := fun k hk => hM _ (h.wts.lt hk) (h.m3 k hk) }⟩
theorem DkAtM.gro {w : World} {g gm : Nat} {D : St.Dk} {M R : Nat → Prop} (h : DkAtM w g gm D M R) (n : Nat) : DkAtM w g gm D (Gro M n) (Gro R n) := h.mono (fun _ _ h => .inl h) (fun _ _ h => .inl h)
def DkEndM (w : World) (g gm : Nat) (M R : Nat → Prop) (r : St.Dk × Int) (e : Ending) (w' : World) : Prop :=
  e = .returned (.int .i64 r.2) ∧ DkAtM w' g gm r.1 (Gro M w.heap.size) (Gro R w.heap.size) ∧ Turn M w w'
theorem DkEndM.dkEnd {w : World} {g gm : Nat} {M R : Nat → Prop} {r : St.Dk × Int} {e : Ending} {w' : World} (h : DkEndM w g gm M R r e w') : DkEnd w g M R r e w' := ⟨h.1, h.2.1.at_, h.2.2⟩
theorem BIn.cells {w : World} {A : Nat → Prop} {v : Value} {b : List UInt8} (h : BIn w A v b) : BIn w (fun k => A k ∧ IsCells w k) v b := by
  obtain ⟨ao, cap, h1, h2, h3, h4, h5⟩ := h
  refine ⟨ao, cap, h1, h2, h3, h4, fun j hj => ?_⟩
  obtain ⟨g, o, e0, e1, e2, e3⟩ := h5 j hj
  refine ⟨g, o, e0, e1, ⟨e2, ?_⟩, e3⟩
  unfold World.cell? at e3
  split at e3
  · rename_i c t fz hh
    exact ⟨c, t, fz, hh⟩
  · cases e3
theorem SecIs.cells {w : World} {A : Nat → Prop} {v : Value} {b : List UInt8} (h : SecIs w A v b) : SecIs w (fun k => A k ∧ IsCells w k) v b := h.imp id fun ⟨a, b⟩ => ⟨a, b.cells⟩
theorem DkAt.gro {w : World} {g : Nat} {D : St.Dk} {M R : Nat → Prop} (h : DkAt w g D M R) (n : Nat) : DkAt w g D (Gro M n) (Gro R n) := h.mono (fun _ _ h => .inl h) (fun _ _ h => .inl h)
section
variable {w : World} {g gl cl gm : Nat} {vw : Value} {sx : Int} {vs : List Value} {ws : List WT} {D : St.Dk} {M R : Nat → Prop}
theorem wt_cells (ws : List WT) (x : WT) : wtCells ws ++ [.int .i64 (x.1 : Int), x.2.1] = wtCells (ws ++ [x]) := by simp [wtCells]
theorem nowV_snoc (ws : List WT) (x : WT) (j : Int) : nowV (ws ++ [x]) j = if j = (x.1 : Int) then some x.2.1 else nowV ws j := by
  unfold nowV
  rw [List.reverse_append, List.reverse_cons, List.reverse_nil, List.nil_append, List.singleton_append, List.find?_cons]
  by_cases e : j = (x.1 : Int)
  · rw [if_pos e, e]; simp
  · have e2 : ((x.1 : Int) == j) = false := by simpa using fun h => e h.symm
    rw [if_neg e, e2]
theorem SecIs.below {w w' : World} {A : Nat → Prop} {v : Value} {b : List UInt8} (h : SecIs w A v b) (hb : Below w.heap.size w w') : SecIs w' A v b := h.turn (M := fun _ => False) (Turn.of_below hb) (fun _ _ h => h)
theorem DkIn.below {w' : World} (h : DkIn w g gl cl gm vw sx vs ws D M R) (hb : Below w.heap.size w w') : DkIn w' g gl cl gm vw sx vs ws D M R :=
  { h with
    blk := (hb.block _ (lt_of_block h.blk)).trans h.blk
    row := h.row.turn (M := fun _ => False) (Turn.of_below hb) (fun _ _ h => h)
    secs := fun i v hv => (h.secs i v hv).below hb
    wts := h.wts.turn (M := fun _ => False) (Turn.of_below hb) (fun _ _ h => h)
    map := h.map.turn (M := fun _ => False) (Turn.of_below hb) (fun h => h)
    was := fun x hx => ⟨(h.was x hx).1, (h.was x hx).2.below hb⟩ }
theorem DkAtM.cells {w : World} {g gm : Nat} {D : St.Dk} {M R : Nat → Prop} (h : DkAtM w g gm D M R) : DkAtM w g gm D (fun k => M k ∧ (k = gm ∨ IsCells w k)) (fun k => R k ∧ IsCells w k) := by
  obtain ⟨gl, cl, vw, sx, vs, ws, h⟩ := h
  exact ⟨gl, cl, vw, sx, vs, ws, { h with
    secs := fun i v hv => (h.secs i v hv).cells.mono (fun k _ hk => ⟨⟨hk.1.1, hk.2⟩, hk.1.2⟩)
    was := fun x hx => ⟨(h.was x hx).1, (h.was x hx).2.cells.mono (fun k _ hk => ⟨⟨hk.1.1, hk.2⟩, hk.1.2⟩)⟩
    m0 := ⟨h.m0, .inr ⟨_, _, _, h.blk⟩⟩
    m1 := ⟨h.m1, .inr (by
      rcases h.row.2 with ⟨hv, _⟩ | ⟨_, _, cur, hv, _, hg, _⟩
      · cases hv
      · cases hv; exact ⟨_, _, _, hg⟩)⟩
    m2 := ⟨h.m2, .inl rfl⟩
    m3 := fun k hk => ⟨h.m3 k hk, .inr (by
      rcases h.wts.2 with ⟨hv, _⟩ | ⟨_, _, cur, hv, _, hg, _⟩
      · rw [hv] at hk; simp [Value.ownBlock] at hk
      · rw [hv] at hk
        simp only [Value.ownBlock, Option.some.injEq] at hk
        subst hk
        exact ⟨_, _, _, hg⟩)⟩ }⟩
theorem bytes_power {w' : World} {v : Value} {b : List UInt8} (hk : w.heap[g]? = some (.cells #[.slice (some ⟨gl, 0, none⟩) vs.length cl, .map (some gm), vw, .int .i64 D.left, .bool D.off, .int .i64 sx] 133 (0, 0))) (hvw : ∃ a n c, vw = .slice a n c) (hb : BytesIn w v b) (hc : Chg [g] w w') : BytesIn w' v b := by
  obtain ⟨ao, cap, h1, h2, h3, h4, h5⟩ := hb
  refine ⟨ao, cap, h1, h2, h3, h4, fun j hj => ?_⟩
  obtain ⟨k, o, e0, e1, e2⟩ := h5 j hj
  refine ⟨k, o, e0, Nat.lt_of_lt_of_le e1 hc.size, (hc.cell (p := ⟨k, o + j, none⟩) e1 (fun hm => ?_)).trans e2⟩
  rw [List.mem_singleton] at hm
  simp only at hm
  subst hm
  obtain ⟨a, n, c, rfl⟩ := hvw
  unfold World.cell? at e2
  rw [hk] at e2
  simp only at e2
  generalize o + j = q at e2
  match q, e2 with
  | 0, e2 => cases e2
  | 1, e2 => cases e2
  | 2, e2 => cases e2
  | 3, e2 => cases e2
  | 4, e2 => cases e2
  | 5, e2 => cases e2
  | q + 6, e2 => simp at e2
theorem infoWt : (Tryz.prog.info? 191).map (fun i => (i.zero, i.size, i.bytes)) = some (some (.agg #[.int .i64 0, .slice none 0 0]), 2, 32) := by kernel_rfl
theorem two_news (w : World) (a b : Value) (t : TypeId) : ∀ (j : Nat) (u : Value), [a, b][j]? = some u → (w.alloc (.cells #[a, b] t)).cell? ((⟨w.heap.size, 0, none⟩ : Addr).add j) = some u := fun j u h => by
  have e : (⟨w.heap.size, 0, none⟩ : Addr).add j = ⟨w.heap.size, j, none⟩ := by unfold Addr.add; split <;> simp_all
  rw [e]
  unfold World.cell?
  rw [heap_alloc_new]
  match j, h with
  | 0, h => cases h; rfl
  | 1, h => cases h; rfl
theorem two_one {i : Int} {a : Option Addr} {n c : Nat} {k : IntKind} : ∀ u ∈ [Value.int k i, Value.slice a n c], u.oneCell' = true := fun u hu => by
  simp at hu
  rcases hu with rfl | rfl <;> rfl
theorem dk_written {wa w3 w4 w5 : World} {x : WT} {vw' : Value} {N : Nat} (h : DkIn w g gl cl gm vw sx vs ws D M R) (ha : Below w.heap.size w wa) (hg3 : Chg vw.ownBlock.toList wa w3) (hloc : vw'.ownBlock = vw.ownBlock ∨ ∃ k, vw'.ownBlock = some k ∧ wa.heap.size ≤ k)
    (hr3 : RowZ w3 191 2 vw' (ws.length + 1) (wtCells (ws ++ [x]))) (h4 : Chg [g] w3 w4) (hb4 : w4.heap[g]? = some (.cells #[.slice (some ⟨gl, 0, none⟩) vs.length cl, .map (some gm), vw', .int .i64 D.left, .bool D.off, .int .i64 sx] 133 (0, 0)))
    (hm5 : VMap Tryz.prog 3 w5 gm (ws.length + 1) (nowV (ws ++ [x]))) (h5 : Chg [gm] w4 w5) (hx : x.1 < vs.length) (hs : SecIs w (fun k => N ≤ k) x.2.1 x.2.2) (n0 : g < N) (n1 : gl < N) (n2 : gm < N) (n3 : ∀ k, vw.ownBlock = some k → k < N) (hN : N ≤ w.heap.size) :
    DkIn w5 g gl cl gm vw' sx vs (ws ++ [x]) { D with waits := D.waits ++ [(x.1, x.2.2)] } (Gro M N) (Gro R N) := by
  have z1 := ha.size
  have z3 := hg3.size
  have nv : ∀ k, vw'.ownBlock = some k → vw.ownBlock = some k ∨ w.heap.size ≤ k := fun k hk => by
    rcases hloc with e | ⟨j, e, hj⟩
    · exact .inl (e ▸ hk)
    · rw [hk] at e; cases e; exact .inr (by omega)
  have mv : ∀ k, k < w.heap.size → vw.ownBlock ≠ some k → vw'.ownBlock ≠ some k := fun k hk hn e => by
    rcases nv k e with e | e
    · exact hn e
    · omega
  have tA : Turn (fun _ => False) w wa := Turn.of_below ha
  have t3 : Turn (fun k => vw.ownBlock = some k) wa w3 := Turn.of_chg hg3 (fun k hk => .inl (by simpa using hk))
  have t4 : Turn (fun k => k = g) w3 w4 := Turn.of_chg h4 (fun k hk => .inl (by simpa using hk))
  have t5 : Turn (fun k => k = gm) w4 w5 := Turn.of_chg h5 (fun k hk => .inl (by simpa using hk))
  have go : ∀ {A : Nat → Prop} {v : Value} {b : List UInt8}, SecIs w A v b → (∀ k, A k → k ≠ g ∧ k ≠ gm ∧ vw.ownBlock ≠ some k) → SecIs w5 A v b := fun {A v b} hs hA =>
    (((hs.turn tA (fun _ _ h => h)).turn t3 (fun k hk => (hA k hk).2.2)).turn t4 (fun k hk => (hA k hk).1)).turn t5 (fun k hk => (hA k hk).2.1)
  have old : ∀ {v : Value} {b : List UInt8}, SecIs w (fun k => R k ∧ k ≠ g ∧ k ≠ gl ∧ k ≠ gm ∧ vw.ownBlock ≠ some k) v b → SecIs w5 (fun k => Gro R N k ∧ k ≠ g ∧ k ≠ gl ∧ k ≠ gm ∧ vw'.ownBlock ≠ some k) v b := fun {v b} hs =>
    (go (hs.mono (A' := fun k => (R k ∧ k ≠ g ∧ k ≠ gl ∧ k ≠ gm ∧ vw.ownBlock ≠ some k) ∧ k < w.heap.size) (fun k hl hk => ⟨hk, hl⟩)) (fun k hk => ⟨hk.1.2.1, hk.1.2.2.2.1, hk.1.2.2.2.2⟩)).mono (fun k _ hk => ⟨.inl hk.1.1, hk.1.2.1, hk.1.2.2.1, hk.1.2.2.2.1, mv k hk.2 hk.1.2.2.2.2⟩)
  have new : SecIs w5 (fun k => Gro R N k ∧ k ≠ g ∧ k ≠ gl ∧ k ≠ gm ∧ vw'.ownBlock ≠ some k) x.2.1 x.2.2 :=
    (go (hs.mono (A' := fun k => N ≤ k ∧ k < w.heap.size) (fun k hl hk => ⟨hk, hl⟩)) (fun k hk => ⟨by omega, by omega, fun e => by have := n3 k e; omega⟩)).mono (fun k _ hk => ⟨.inr hk.1, by omega, by omega, by omega, mv k hk.2 (fun e => by have := n3 k e; omega)⟩)
  have ng : vw'.ownBlock ≠ some g := mv g (by omega) h.d3
  have ngm : vw'.ownBlock ≠ some gm := mv gm (by omega) h.d5
  have ngl : vw'.ownBlock ≠ some gl := mv gl (by omega) h.d4
  exact {
    blk := (t5.block _ (lt_of_block hb4) h.d1).trans hb4
    row := (((h.row.turn tA (fun _ _ h => h)).turn t3 (fun k hk => by cases hk; exact h.d4)).turn t4 (fun k hk => by cases hk; exact fun e => h.d0 e.symm)).turn t5 (fun k hk => by cases hk; exact h.d2)
    secs := fun i v hv => old (h.secs i v hv)
    len := h.len
    big := h.big
    wts := by
      rw [List.length_append, List.length_singleton]
      exact (hr3.turn t4 (fun k hk e => ng (by rw [hk, e]))).turn t5 (fun k hk e => ngm (by rw [hk, e]))
    map := by
      rw [List.length_append, List.length_singleton]
      exact hm5
    was := fun y hy => by
      rcases List.mem_append.1 hy with hy | hy
      · exact ⟨(h.was y hy).1, old (h.was y hy).2⟩
      · rw [List.mem_singleton] at hy; subst hy; exact ⟨hx, new⟩
    wseq := by rw [List.map_append, ← h.wseq]; rfl
    lwf := h.lwf
    m0 := .inl h.m0
    m1 := .inl h.m1
    m2 := .inl h.m2
    m3 := fun k hk => by
      rcases nv k hk with e | e
      · exact .inl (h.m3 k e)
      · exact .inr (by omega)
    d0 := h.d0
    d1 := h.d1
    d2 := h.d2
    d3 := ng
    d4 := ngl
    d5 := ngm }
set_option maxRecDepth 100000 in
set_option maxHeartbeats 4000000 in
theorem dkWriteM_any {w : World} {g gm : Nat} {D : St.Dk} {M R : Nat → Prop} (h : DkAtM w g gm D M R) (i : Int) (hi : (Lit.int .i64 i).wf = true) (v : Value) (b : List UInt8) (hb : BytesIn w v b) (hl : b.length ≤ 1000000) (hw : D.waits.length ≤ 1000000) :
    Calls Tryz.prog 67 #[.pointer (some ⟨g, 0, none⟩), .int .i64 i, v] w (DkEndM w g gm M R (D.write i b)) := by
  have h0 := h
  obtain ⟨gl, cl, vw, sx, vs, ws, h⟩ := h
  have HON := Lib.hid (dkOn_any h)
  have HTH := Lib.hid (dkThere_any h i)
  have HSP := Lib.hid (dkSpend_any h)
  have hlen := h.len
  have H0 := Lib.hid h0
  have HH := Lib.hid h
  have HBI := Lib.hid hb
  obtain ⟨ao, cap, rfl, hc1, hc2, hc3, _⟩ := hb
  have hll : (b.length : Int) ≤ 1000000 := by omega
  by_cases ho : D.off = true
  · have hr : D.write i b = (D, 8) := by unfold St.Dk.write; rw [if_pos ho]
    rw [hr]
    rw [if_pos ho] at HON
    clear h h0 hlen HTH HSP hr ho
    go_enter Tryz.func67, Tryz.ntmps67
    go_wp2_with (go_at_call 121; refine HON.out.mono ?_; rintro e w1 ⟨rfl, rfl⟩)
    go_ret
    exact ⟨rfl, H0.out.gro _, Turn.refl _ _⟩
  · rw [if_neg ho] at HON
    by_cases ht : 0 ≤ i ∧ i < vs.length
    · rw [there_yes ht] at HTH
      by_cases h5 : b.length = 512
      · have hr : D.write i b = if D.spend.2 ≠ 0 then D.spend else ({ D.spend.1 with waits := D.waits ++ [(i.toNat, b)] }, 0) := by
          unfold St.Dk.write
          rw [if_neg ho, if_neg (by rw [hlen]; intro hx; rcases hx with hx | hx; exact hx ht; exact hx h5)]
        rw [hr]
        have h5a : ((b.length : Int) == 512) = true := by rw [beq_iff_eq]; omega
        have h5d : ((b.length : Int) != 512) = false := by rw [bne_eq_false_iff_eq]; omega
        have H5 := Lib.hid h5
        have HT := Lib.hid ht
        have HW := Lib.hid hw
        have hwl : D.waits.length = ws.length := by rw [h.wseq, List.length_map]
        have HWL := Lib.hid hwl
        obtain ⟨aw, cw, hvw, _, _, _, _⟩ := h.wts.form
        have HVW := Lib.hid hvw
        subst hvw
        by_cases hl0 : D.left = 0
        · have hs : D.spend = ({ D with off := true }, 8) := by unfold St.Dk.spend; rw [if_pos hl0]
          rw [hs]
          have HS := Lib.hid hs
          rw [if_pos (show (8 : Int) ≠ 0 by decide)]
          clear h h0 hlen hr ho ht h5 hw hwl hl0 hs
          go_enter Tryz.func67, Tryz.ntmps67
          go_wp2_with (first
            | (go_at_call 121; refine HON.out.mono ?_; rintro e w1 ⟨rfl, rfl⟩)
            | (go_at_call 122; refine HTH.out.mono ?_; rintro e w1 ⟨rfl, rfl⟩)
            | (go_at_call 123; refine HSP.out.mono ?_; rintro e w1 ⟨he, hc, sx1, hd⟩; rw [HS.out] at he hd; subst he; have HC := Lib.hid hc; have HD := Lib.hid hd; clear hc hd))
          go_ret
          exact ⟨rfl, DkAtM.gro (⟨_, _, _, _, _, _, HD.out⟩ : DkAtM _ _ _ _ _ _) _, Turn.of_chg HC.out (fun k hk => .inl (by simp at hk; subst hk; exact HH.out.m0))⟩
        · obtain ⟨D1, hs, hD1⟩ : ∃ D1, D.spend = (D1, 0) ∧ D1.waits = D.waits := by
            unfold St.Dk.spend
            rw [if_neg hl0]
            exact ⟨_, rfl, rfl⟩
          rw [hs]
          have HS := Lib.hid hs
          rw [if_neg (show ¬ (0 : Int) ≠ 0 by decide)]
          have HD1 := Lib.hid hD1
          clear h h0 hlen hr ho ht h5 hw hwl hl0 hs hD1
          go_enter Tryz.func67, Tryz.ntmps67
          go_wp2_with (first
            | (go_at_call 121; refine HON.out.mono ?_; rintro e w1 ⟨rfl, rfl⟩)
            | (go_at_call 122; refine HTH.out.mono ?_; rintro e w1 ⟨rfl, rfl⟩)
            | (go_at_call 123; refine HSP.out.mono ?_; rintro e w1 ⟨he, hc, sx1, hd⟩; rw [HS.out] at he hd; subst he; have hbi := bytes_power HH.out.blk ⟨_, _, _, rfl⟩ HBI.out hc; have HC := Lib.hid hc; have HD := Lib.hid hd; have HB1 := Lib.hid hbi; clear hc hd hbi)
            | (go_at_call 124; refine (clone_any _ b w1 HB1.out (by have := H5.out; omega)).mono ?_; rintro e w2 ⟨vc, rfl, hr, hb2⟩; obtain ⟨ac, pc, rfl, _⟩ := hr.form; have HR := Lib.hid hr; have HB2 := Lib.hid hb2; have hd2 := HD.out.below hb2; obtain ⟨c0, c1, c2, c3, c4, c5, cf⟩ := cells6 hd2.blk; have HD2 := Lib.hid hd2; clear hr hb2 hd2)
            | (at_builtin; refine wpList_appz (w2.alloc (.cells #[.int .i64 i, .slice ac b.length pc] 191)) rfl _ _ 131 rfl 191 (.agg #[.int .i64 0, .slice none 0 0]) 2 32 Tryz.underlying131 infoWt rfl (by decide) (.slice aw ws.length cw) ws.length (wtCells ws) rfl (HD2.out.wts.turn (M := fun _ => False) ((Turn.refl _ _).alloc _) (fun _ _ h => h)) ⟨w2.heap.size, 0, none⟩ 1 1 [.int .i64 i, .slice ac b.length pc] rfl (by decide) rfl (two_news _ _ _ _) two_one (by have := HW.out; have := HWL.out; omega) (by decide) ?_; intro gw cw3 w3 hr3 hg3 hloc; have HR3 := Lib.hid hr3; have HG3 := Lib.hid hg3; have HLOC := Lib.hid hloc; have hb3 := (hg3.block g (by have := lt_of_block HD2.out.blk; simp; omega) (fun e => HD2.out.d3 e.symm)).trans ((Below.heap_alloc _ _ _ (lt_of_block HD2.out.blk)).trans HD2.out.blk); clear hr3 hg3 hloc c0 c1 c2 c3 c4 c5 cf; obtain ⟨c0, c1, c2, c3, c4, c5, cf⟩ := cells6 hb3; have HB3 := Lib.hid hb3; clear hb3)
            | (refine wpList_update_vmap rfl _ _ _ 98 rfl Tryz.underlying3 Tryz.underlying98 (((HD2.out.map.turn (M := fun _ => False) ((Turn.refl _ _).alloc _) (fun h => h)).chg ((Chg.refl (Value.slice aw ws.length cw).ownBlock.toList _).grown HG3.out (fun k hk => .inl (by simp [hk]))) (by have := HD2.out.d5; simpa using this)).chg (chg_set w3 g 2 _) (by have := HD2.out.d1; simpa using fun e => this e.symm)) (by have := HW.out; have := HWL.out; unfold maxLen; omega) rfl i (.slice ac b.length pc) rfl rfl hi ?_; intro w5 hm5 hc5; have HM5 := Lib.hid hm5; have HC5 := Lib.hid hc5; clear hm5 hc5))
          go_ret
          have hti := HT.out
          obtain ⟨k, rfl⟩ : ∃ k : Nat, i = (k : Int) := ⟨i.toNat, by omega⟩
          have hc1 := HC.out.size
          have hb2 := HB2.out.size
          have hwn := dk_written (x := (k, .slice ac b.length pc, b)) (N := w.heap.size) HD2.out ((Below.refl _ w2).alloc (Nat.le_refl _) (.cells #[.int .i64 k, .slice ac b.length pc] 191)) ((Chg.refl _ _).grown HG3.out (fun k hk => .inl (by simp [hk]))) (by
              rcases HLOC.out with e | e
              · exact .inl e.symm
              · exact .inr ⟨gw, rfl, Nat.le_of_eq e.symm⟩)
            (by rw [← wt_cells]; exact HR3.out) (chg_set w3 g 2 _) ((dk_set (o := 2) (u := .slice (some ⟨gw, 0, none⟩) (ws.length + 1) cw3) HB3.out).trans rfl)
            (by
              obtain ⟨D', h1, h2⟩ := HM5.out
              exact ⟨D', h1, fun j => (h2 j).trans (nowV_snoc ws (k, .slice ac b.length pc, b) j).symm⟩) HC5.out (by omega) (.inr ⟨H5.out, BIn.of_row HR.out (fun k hk => by omega)⟩) (lt_of_block HH.out.blk) (HH.out.row.lt rfl) HH.out.map.lt (fun k hk => HH.out.wts.lt hk) (by omega)
          rw [HD1.out] at hwn
          refine ⟨rfl, ⟨_, _, _, _, _, _, hwn⟩, ?_⟩
          have q1 : Turn M w w2 := (Turn.of_chg HC.out (fun k hk => .inl (by simp at hk; subst hk; exact HH.out.m0))).thenBelow HB2.out
          have q3 : Turn M w w3 := (q1.alloc _).trans (M' := M) (Turn.of_chg (F := (Value.slice aw ws.length cw).ownBlock.toList) ((Chg.refl _ _).grown HG3.out (fun k hk => .inl (by simp [hk]))) (fun k hk => .inl (HH.out.m3 k (by simpa using hk)))) (fun _ h => .inl h)
          exact (q3.setCell (p := ⟨g, 2, none⟩) (.inl HH.out.m0) _).trans (M' := M) (Turn.of_chg HC5.out (fun k hk => .inl (by simp at hk; subst hk; exact HH.out.m2))) (fun _ h => .inl h)
      · have hr : D.write i b = (D, 1) := by unfold St.Dk.write; rw [if_neg ho, if_pos (.inr h5)]
        rw [hr]
        have h5b : ((b.length : Int) == 512) = false := by simpa using fun e => h5 (by omega)
        have h5c : ((b.length : Int) != 512) = true := by simpa using fun e => h5 (by omega)
        clear h h0 hlen HSP hr ho ht h5
        go_enter Tryz.func67, Tryz.ntmps67
        go_wp2_with (first
          | (go_at_call 121; refine HON.out.mono ?_; rintro e w1 ⟨rfl, rfl⟩)
          | (go_at_call 122; refine HTH.out.mono ?_; rintro e w1 ⟨rfl, rfl⟩))
        go_ret
        exact ⟨rfl, H0.out.gro _, Turn.refl _ _⟩
    · rw [there_no ht] at HTH
      have hr : D.write i b = (D, 1) := by unfold St.Dk.write; rw [if_neg ho, if_pos (.inl (by rw [hlen]; exact ht))]
      rw [hr]
      clear h h0 hlen HSP hr ho ht
      go_enter Tryz.func67, Tryz.ntmps67
      go_wp2_with (first
          | (go_at_call 121; refine HON.out.mono ?_; rintro e w1 ⟨rfl, rfl⟩)
          | (go_at_call 122; refine HTH.out.mono ?_; rintro e w1 ⟨rfl, rfl⟩))
      go_ret
      exact ⟨rfl, H0.out.gro _, Turn.refl _ _⟩
theorem dkWrite_any {w : World} {g : Nat} {D : St.Dk} {M R : Nat → Prop} (h : DkAt w g D M R) (i : Int) (hi : (Lit.int .i64 i).wf = true) (v : Value) (b : List UInt8) (hb : BytesIn w v b) (hl : b.length ≤ 1000000) (hw : D.waits.length ≤ 1000000) :
    Calls Tryz.prog 67 #[.pointer (some ⟨g, 0, none⟩), .int .i64 i, v] w (DkEnd w g M R (D.write i b)) := by
  obtain ⟨gm, h⟩ := h.atM
  exact (dkWriteM_any h i hi v b hb hl hw).mono fun _ _ h => h.dkEnd
end
end Go.Proofs.YtcpgbekcbaelpaaGreatDoor
/- Layer 4: what waits is settled; a barrier. -/
namespace Go.Proofs.YtcpgbekcbaelpaaGreatDoor
open Go.RowKit Go.Maps Wr
set_option linter.unusedVariables false
set_option linter.unusedSimpArgs false
def settleV : List Value → List WT → (Nat → Bool) → Nat → List Value
  | vs, [], _, _ => vs
  | vs, x :: l, p, i => settleV (if p i = true then vs.set x.1 x.2.1 else vs) l p (i + 1)
theorem settleV_len : ∀ (l : List WT) (vs : List Value) (p : Nat → Bool) (i : Nat), (settleV vs l p i).length = vs.length
  | [], vs, p, i => rfl
  | x :: l, vs, p, i => by
    rw [settleV, settleV_len l]
    split
    · rw [List.length_set]
    · rfl
theorem settle_len : ∀ (l : List (Nat × List UInt8)) (vs : List (List UInt8)) (p : Nat → Bool) (i : Nat), (St.settle vs l p i).length = vs.length
  | [], vs, p, i => rfl
  | x :: l, vs, p, i => by
    rw [St.settle, settle_len l]
    split
    · rw [List.length_set]
    · rfl
def SecsAre (w : World) (A : Nat → Prop) (vs : List Value) (last : List (List UInt8)) : Prop := last.length = vs.length ∧ ∀ i v, vs[i]? = some v → SecIs w A v (last.getD i [])
theorem SecsAre.set {w : World} {A : Nat → Prop} {vs : List Value} {last : List (List UInt8)} (h : SecsAre w A vs last) {n : Nat} (hn : n < vs.length) {v : Value} {b : List UInt8} (hv : SecIs w A v b) : SecsAre w A (vs.set n v) (last.set n b) := by
  refine ⟨by rw [List.length_set, List.length_set]; exact h.1, fun i u hu => ?_⟩
  rw [List.getElem?_set] at hu
  rw [List.getD_eq_getElem?_getD, List.getElem?_set]
  by_cases e : n = i
  · subst e
    rw [if_pos rfl, if_pos hn] at hu
    rw [if_pos rfl, if_pos (by rw [h.1]; exact hn)]
    cases hu
    exact hv
  · rw [if_neg e] at hu
    rw [if_neg e, ← List.getD_eq_getElem?_getD]
    exact h.2 i u hu
theorem settle_secs {w : World} {A : Nat → Prop} (p : Nat → Bool) : ∀ (ws : List WT) (vs : List Value) (last : List (List UInt8)) (i : Nat), SecsAre w A vs last → (∀ x ∈ ws, x.1 < vs.length ∧ SecIs w A x.2.1 x.2.2) → SecsAre w A (settleV vs ws p i) (St.settle last (ws.map fun x => (x.1, x.2.2)) p i)
  | [], vs, last, i, h, _ => h
  | x :: l, vs, last, i, h, hx => by
    obtain ⟨h1, h2⟩ := hx x (List.mem_cons_self ..)
    rw [settleV, List.map_cons, St.settle]
    cases hp : p i with
    | true =>
      rw [if_pos rfl, if_pos rfl]
      exact settle_secs p l _ _ _ (h.set h1 h2) (fun y hy => by rw [List.length_set]; exact hx y (List.mem_cons_of_mem _ hy))
    | false =>
      rw [if_neg (by decide), if_neg (by decide)]
      exact settle_secs p l _ _ _ h (fun y hy => hx y (List.mem_cons_of_mem _ hy))
theorem settleV_snoc (p : Nat → Bool) (x : WT) : ∀ (l : List WT) (vs : List Value) (i : Nat), settleV vs (l ++ [x]) p i = if p (i + l.length) = true then (settleV vs l p i).set x.1 x.2.1 else settleV vs l p i
  | [], vs, i => by simp [settleV]
  | y :: l, vs, i => by
    rw [List.cons_append, settleV, settleV_snoc p x l, settleV, List.length_cons, show i + 1 + l.length = i + (l.length + 1) by omega]
def SettleAt (w : World) (g gl cl : Nat) (vs : List Value) (ws : List WT) (p : Nat → Bool) (k : Nat) (s11 : Value) (wr : World) : Prop :=
  ∃ i : Nat, s11 = .int .i64 (i : Int) ∧ i + k = ws.length ∧ Chg [gl] w wr ∧ Row wr 44 (.slice (some ⟨gl, 0, none⟩) vs.length cl) (settleV vs (ws.take i) p 0)
section
variable {w : World} {g gl cl gm : Nat} {vw : Value} {sx : Int} {vs : List Value} {ws : List WT} {D : St.Dk} {M R : Nat → Prop}
theorem wt_get : ∀ (ws : List WT) (i : Nat) (x : WT), ws[i]? = some x → (wtCells ws)[i * 2]? = some (.int .i64 (x.1 : Int)) ∧ (wtCells ws)[i * 2 + 1]? = some x.2.1
  | y :: l, 0, x, h => by cases h; exact ⟨rfl, rfl⟩
  | y :: l, i + 1, x, h => by
    rw [List.getElem?_cons_succ] at h
    have := wt_get l i x h
    have e : wtCells (y :: l) = .int .i64 (y.1 : Int) :: y.2.1 :: wtCells l := rfl
    rw [e, show (i + 1) * 2 = i * 2 + 1 + 1 by omega, List.getElem?_cons_succ, List.getElem?_cons_succ, show i * 2 + 1 + 1 + 1 = i * 2 + 1 + 1 + 1 by omega, List.getElem?_cons_succ, List.getElem?_cons_succ]
    exact this
  | [], _, _, h => by simp at h
set_option maxRecDepth 100000 in
set_option maxHeartbeats 4000000 in
theorem dkSettle_any (h : DkIn w g gl cl gm vw sx vs ws D M R) (gf : FuncId) (lb : Array Value) (eg : ∀ args w, (callFunc gf args).run Tryz.prog w = .ok (.enter gf args) w) (p : Nat → Bool) (hl : ws.length ≤ 1000000)
    (hp : ∀ W i, Chg [gl] w W → i < ws.length → Calls Tryz.prog gf (#[.int .i64 (i : Int)] ++ lb) W fun e W' => e = .returned (.bool (p i)) ∧ W = W') :
    Calls Tryz.prog 69 #[.pointer (some ⟨g, 0, none⟩), .func (.func gf) #[] lb] w fun e w' => e = .returned (.tuple #[]) ∧ Turn M w w' ∧
      ∃ gm' sx, DkIn w' g gl cl gm' (.slice none 0 0) sx (settleV vs ws p 0) [] { D with last := St.settle D.last D.waits p 0, waits := [] } (Gro M w.heap.size) R := by
  obtain ⟨c0, c1, c2, c3, c4, c5, cf⟩ := cells6 h.blk
  obtain ⟨aw, cw, hvw, _, _, _, haw⟩ := h.wts.form
  have HH := Lib.hid h
  have HP := Lib.hid hp
  have HV := Lib.hid hvw
  subst hvw
  have hl2 : (ws.length : Int) ≤ 1000000 := by omega
  clear h hp haw c1 c3 c4 c5
  go_enter Tryz.func69, Tryz.ntmps69
  go_wp2
  have HST : Hid (SettleAt w g gl cl vs ws p ws.length (.int .i64 0) w) := ⟨0, rfl, by omega, Chg.refl _ _, HH.out.row⟩
  go_loopg [11] ws.length (fun k s11 wr => SettleAt w g gl cl vs ws p k s11 wr)
  case atStart => exact HST.out
  case round =>
    clear HST
    obtain ⟨i, rfl, hik, hc, hrow⟩ := hrel
    have HC := Lib.hid hc
    have HR := Lib.hid hrow
    clear hc hrow
    by_cases hlt : i < ws.length
    · obtain ⟨x, hx⟩ : ∃ x, ws[i]? = some x := ⟨_, List.getElem?_eq_getElem hlt⟩
      obtain ⟨w0, w1⟩ := wt_get ws i x hx
      have hwl : (wtCells ws).length = ws.length * 2 := HH.out.wts.1
      have hwts := HH.out.wts
      obtain ⟨_, _, hv2, _, _, hnone, haw⟩ := hwts.form
      cases hv2
      cases aw with
      | none => have := (hnone rfl).1; omega
      | some a =>
        obtain ⟨gw, rfl, hgl, _⟩ := haw a rfl
        have q0 := (hwts.cellAt (i * 2) (by omega)).trans w0
        have q1 := (hwts.cellAt (i * 2 + 1) (by omega)).trans w1
        have hngl : gw ∉ [gl] := by have := HH.out.d4; simpa [Value.ownBlock] using this
        replace q0 := (HC.out.cell (p := ⟨gw, i * 2, none⟩) hgl hngl).trans q0
        replace q1 := (HC.out.cell (p := ⟨gw, i * 2 + 1, none⟩) hgl hngl).trans q1
        have g0 : (0 : Int) ≤ (i : Int) := by omega
        have g1 : (i : Int) < (ws.length : Int) := by omega
        obtain ⟨hxn, hxs⟩ := HH.out.was x (List.mem_of_getElem? hx)
        obtain ⟨xn, xv, xb⟩ := x
        obtain ⟨av, nv, cv, rfl⟩ : ∃ a n c, xv = .slice a n c := by
          rcases hxs with ⟨h, _⟩ | ⟨_, _, _, h, _⟩
          · exact ⟨_, _, _, h⟩
          · exact ⟨_, _, _, h⟩
        have HX := Lib.hid hx
        have HXN := Lib.hid hxn
        dsimp only at q0 q1
        clear hxn hxs hx w0 w1 hwl hwts hnone haw hgl hngl c0 c2 cf
        go_wp2_with (fail)
        refine (HP.out _ i (HC.out.alloc _) (by omega)).mono ?_
        rintro e W2 ⟨rfl, rfl⟩
        have hsn : settleV vs (ws.take (i + 1)) p 0 = if p i = true then (settleV vs (ws.take i) p 0).set xn (.slice av nv cv) else settleV vs (ws.take i) p 0 := by
          rw [List.take_add_one, HX.out, Option.toList_some, settleV_snoc, List.length_take, Nat.min_eq_left (by omega), Nat.zero_add]
        have HSN := Lib.hid hsn
        obtain ⟨pb, hpb⟩ : ∃ q, p i = q := ⟨_, rfl⟩
        have HPB := Lib.hid hpb
        rw [hpb]
        clear hsn hpb
        cases pb with
        | false =>
          go_wp2
          go_roundg (gk - 1)
          case measure => omega
          case rel =>
            refine ⟨i + 1, by go_num, by omega, HC.out.alloc _, ?_⟩
            rw [HSN.out, HPB.out, if_neg (by decide)]
            exact HR.out.chg ((Chg.refl [] _).alloc _) (fun _ _ h => by cases h)
        | true =>
          have c0 : wr.cell? ⟨g, 0, none⟩ = some (.slice (some ⟨gl, 0, none⟩) vs.length cl) := (HC.out.cell (p := ⟨g, 0, none⟩) (lt_of_block HH.out.blk) (by have := HH.out.d0; simpa using this)).trans (cells6 HH.out.blk).1
          have hsl := settleV_len (ws.take i) vs p 0
          have HSL := Lib.hid hsl
          obtain ⟨ov, hov⟩ : ∃ ov, (settleV vs (ws.take i) p 0)[xn]? = some ov := ⟨_, List.getElem?_eq_getElem (by rw [hsl]; exact HXN.out)⟩
          have r0 := (Row.cellAt (by rw [← hsl] at HR; exact HR.out) xn (by rw [hsl]; exact HXN.out)).trans hov
          have rf := Row.frozenAt (by rw [← hsl] at HR; exact HR.out) xn
          have g2 : (0 : Int) ≤ (xn : Int) := by omega
          have g3 : (xn : Int) < (vs.length : Int) := by have : xn < vs.length := HXN.out; omega
          have hb1 : (vs.length : Int) ≤ 65536 := by have := HH.out.big; omega
          have f0 : ∀ o, (wr.alloc o).cell? ⟨g, 0, none⟩ = some (.slice (some ⟨gl, 0, none⟩) vs.length cl) := fun o => (Below.cell ((Below.refl _ _).alloc (Nat.le_refl _) o) (p := ⟨g, 0, none⟩) (Nat.lt_of_lt_of_le (lt_of_block HH.out.blk) HC.out.size)).trans c0
          have hgl : gl < wr.heap.size := HR.out.lt rfl
          have f1 : ∀ o, (wr.alloc o).cell? ⟨gl, xn, none⟩ = some ov := fun o => (Below.cell ((Below.refl _ _).alloc (Nat.le_refl _) o) (p := ⟨gl, xn, none⟩) hgl).trans r0
          have f2 : ∀ o, (wr.alloc o).frozen? ⟨gl, xn, none⟩ = false := fun o => (Below.frozen ((Below.refl _ _).alloc (Nat.le_refl _) o) (p := ⟨gl, xn, none⟩) hgl).trans rf
          clear hsl hov hgl
          go_wp2
          refine region_tail 9 (by kernel_rfl) (by kernel_rfl) ?_
          simp only [List.take_succ_cons, List.take_zero, List.drop_succ_cons, List.drop_zero]
          repeat (refine wpStill_step (fun K hK => ?_); go_simp; (try go_bits); (refine hK _ ?_; clear hK K))
          refine wpStill_nil ?_
          go_wp2
          go_roundg (gk - 1)
          case measure => omega
          case rel =>
            refine ⟨i + 1, by go_num, by omega, ((HC.out.alloc _).drewN 1).then1 (chg_set _ gl xn _), ?_⟩
            rw [HSN.out, HPB.out, if_pos rfl]
            have h1 := HR.out.chg (F := []) (((Chg.refl [] _).alloc (.cells #[.int .i64 xn, .slice av nv cv] 191)).drewN 1) (fun _ _ h => by cases h)
            exact Row.stored h1 xn _
    · have hi : i = ws.length := by omega
      subst hi
      have hrow := HR.out
      rw [List.take_length] at hrow
      have hblk := (HC.out.block _ (lt_of_block HH.out.blk) (by have := HH.out.d0; simpa using this)).trans HH.out.blk
      obtain ⟨_, c1, c2, _, _, _, cf⟩ := cells6 hblk
      obtain ⟨_, e1, e2, _, _, _, ef⟩ := cells6A hblk
      have HB := Lib.hid hblk
      have HRW := Lib.hid hrow
      have hmm := @run_makeMap Tryz.prog
      clear hblk hrow
      go_wp2
      go_end0
      have h0 := HH.out
      have hsz := HC.out.size
      have tl : Turn (fun k => k = gl) w wr := Turn.of_chg HC.out (fun k hk => .inl (by simpa using hk))
      have hb1 := (dk_set (o := 1) (u := .map (some wr.heap.size)) (dk_set (o := 2) (u := .slice none 0 0) (blk_alloc HB.out (.map #[] 0)))).trans rfl
      have hc2 : Chg [g] (wr.alloc (.map #[] 0)) (((wr.alloc (.map #[] 0)).setCell ⟨g, 2, none⟩ (.slice none 0 0)).setCell ⟨g, 1, none⟩ (.map (some wr.heap.size))) := (chg_set _ g 2 _).then1 (chg_set _ g 1 _)
      have tg : Turn (fun k => k = g) (wr.alloc (.map #[] 0)) (((wr.alloc (.map #[] 0)).setCell ⟨g, 2, none⟩ (.slice none 0 0)).setCell ⟨g, 1, none⟩ (.map (some wr.heap.size))) := Turn.of_chg hc2 (fun k hk => .inl (by simpa using hk))
      have ta : Turn (fun _ => False) wr (wr.alloc (.map #[] 0)) := (Turn.refl _ _).alloc _
      have hsecs := settle_secs p ws vs D.last 0 ⟨h0.len, h0.secs⟩ h0.was
      rw [← h0.wseq] at hsecs
      have hgw := lt_of_block h0.blk
      refine ⟨rfl, ?_, wr.heap.size, sx, ?_⟩
      · exact (((tl.mono (fun k hk => hk ▸ h0.m1)).alloc (.map #[] 0)).setCell (p := ⟨g, 2, none⟩) (.inl h0.m0) _).setCell (p := ⟨g, 1, none⟩) (.inl h0.m0) _
      · exact {
          blk := by rw [settleV_len]; exact hb1
          row := by
            rw [settleV_len]
            exact (HRW.out.turn ta (fun _ _ h => h)).turn tg (fun k hk => by cases hk; exact fun e => h0.d0 e.symm)
          secs := fun i v hv => ((((hsecs.2 i v hv).mono (A' := fun k => (R k ∧ k ≠ g ∧ k ≠ gl ∧ k ≠ gm ∧ (Value.slice aw ws.length cw).ownBlock ≠ some k) ∧ k < w.heap.size) (fun k hl hk => ⟨hk, hl⟩)).turn tl (fun k hk => hk.1.2.2.1)).turn ta (fun _ _ h => h)).turn tg (fun k hk => hk.1.2.1) |>.mono (fun k _ hk => ⟨hk.1.1, hk.1.2.1, hk.1.2.2.1, by omega, by simp [Value.ownBlock]⟩)
          len := by rw [settleV_len]; exact hsecs.1.trans (settleV_len _ _ _ _)
          big := by rw [settleV_len]; exact h0.big
          wts := RowZ.nil _ _ _
          map := by
            have := (VMap.made (P := Tryz.prog) (K := 3) wr).turn tg (fun e => by omega)
            exact this
          was := fun x hx => by cases hx
          wseq := rfl
          lwf := h0.lwf
          m0 := .inl h0.m0
          m1 := .inl h0.m1
          m2 := .inr (by omega)
          m3 := fun k hk => by simp [Value.ownBlock] at hk
          d0 := h0.d0
          d1 := by omega
          d2 := by have : gl < w.heap.size := h0.row.lt rfl; omega
          d3 := by simp [Value.ownBlock]
          d4 := by simp [Value.ownBlock]
          d5 := by simp [Value.ownBlock] }
end
end Go.Proofs.YtcpgbekcbaelpaaGreatDoor
/- Layer 4: a barrier; a disk's power goes and comes; a new disk; a copy. -/
namespace Go.Proofs.YtcpgbekcbaelpaaGreatDoor
open Go.RowKit Go.Maps Wr
set_option linter.unusedVariables false
set_option linter.unusedSimpArgs false
set_option maxRecDepth 100000 in
theorem barrierFn_any (w : World) (i : Nat) : Calls Tryz.prog 144 (#[.int .i64 (i : Int)] ++ #[]) w fun e w' => e = .returned (.bool true) ∧ w = w' := by
  show Calls Tryz.prog 144 #[.int .i64 (i : Int)] w _
  go_enter Tryz.func144, Tryz.ntmps144
  go_wp2
  go_ret
  exact ⟨rfl, rfl⟩
set_option maxRecDepth 100000 in
set_option maxHeartbeats 2000000 in
theorem dkBarrier_any {w : World} {g : Nat} {D : St.Dk} {M R : Nat → Prop} (h : DkAt w g D M R) (hw : D.waits.length ≤ 1000000) :
    Calls Tryz.prog 97 #[.pointer (some ⟨g, 0, none⟩)] w (DkEnd w g M R D.barrier) := by
  have h0 := h
  obtain ⟨gl, cl, gm, vw, sx, vs, ws, h⟩ := h
  have HON := Lib.hid (dkOn_any h)
  have HSP := Lib.hid (dkSpend_any h)
  have H0 := Lib.hid h0
  have HH := Lib.hid h
  have hwl : ws.length ≤ 1000000 := by rw [h.wseq, List.length_map] at hw; exact hw
  have HWL := Lib.hid hwl
  by_cases ho : D.off = true
  · have hr : D.barrier = (D, 8) := by unfold St.Dk.barrier; rw [if_pos ho]
    rw [hr]
    rw [if_pos ho] at HON
    clear h h0 HSP hr ho hw hwl
    go_enter Tryz.func97, Tryz.ntmps97
    go_wp2_with (go_at_call 121; refine HON.out.mono ?_; rintro e w1 ⟨rfl, rfl⟩)
    go_ret
    exact ⟨rfl, H0.out.gro _, Turn.refl _ _⟩
  · rw [if_neg ho] at HON
    have hr : D.barrier = if D.spend.2 ≠ 0 then D.spend else ({ D.spend.1 with last := St.settle D.last D.waits (fun _ => true) 0, waits := [] }, 0) := by unfold St.Dk.barrier; rw [if_neg ho]
    rw [hr]
    by_cases hl0 : D.left = 0
    · have hs : D.spend = ({ D with off := true }, 8) := by unfold St.Dk.spend; rw [if_pos hl0]
      rw [hs, if_pos (show (8 : Int) ≠ 0 by decide)]
      have HS := Lib.hid hs
      clear h h0 hr ho hw hwl hl0 hs
      go_enter Tryz.func97, Tryz.ntmps97
      go_wp2_with (first
        | (go_at_call 121; refine HON.out.mono ?_; rintro e w1 ⟨rfl, rfl⟩)
        | (go_at_call 123; refine HSP.out.mono ?_; rintro e w1 ⟨he, hc, sx1, hd⟩; rw [HS.out] at he hd; subst he; have HC := Lib.hid hc; have HD := Lib.hid hd; clear hc hd))
      go_ret
      exact ⟨rfl, DkAt.gro (⟨_, _, _, _, _, _, _, HD.out⟩ : DkAt _ _ _ _ _) _, Turn.of_chg HC.out (fun k hk => .inl (by simp at hk; subst hk; exact HH.out.m0))⟩
    · obtain ⟨D1, hs, hD1, hD2⟩ : ∃ D1, D.spend = (D1, 0) ∧ D1.waits = D.waits ∧ D1.last = D.last := by
        unfold St.Dk.spend
        rw [if_neg hl0]
        exact ⟨_, rfl, rfl, rfl⟩
      rw [hs, if_neg (show ¬ (0 : Int) ≠ 0 by decide)]
      have HS := Lib.hid hs
      have HD1 := Lib.hid hD1
      have HD2 := Lib.hid hD2
      clear h h0 hr ho hw hwl hl0 hs hD1 hD2
      go_enter Tryz.func97, Tryz.ntmps97
      go_wp2_with (first
        | (go_at_call 121; refine HON.out.mono ?_; rintro e w1 ⟨rfl, rfl⟩)
        | (go_at_call 123; refine HSP.out.mono ?_; rintro e w1 ⟨he, hc, sx1, hd⟩; rw [HS.out] at he hd; subst he; have HC := Lib.hid hc; have HD := Lib.hid hd; clear hc hd)
        | (go_at_call 69; refine (dkSettle_any HD.out 144 #[] (enters_of Tryz.func144 (by kernel_rfl) rfl) (fun _ => true) HWL.out (fun W i _ _ => barrierFn_any W i)).mono ?_; rintro e w2 ⟨rfl, ht, gm2, sx2, hd2⟩; have HT := Lib.hid ht; have HD2' := Lib.hid hd2; clear ht hd2))
      go_ret
      have h2 := HD2'.out
      rw [HD1.out, HD2.out] at h2
      have hz := HC.out.size
      have h3 : DkAt w2 g { D1 with last := St.settle D.last D.waits (fun _ => true) 0, waits := [] } (Gro M w1.heap.size) R := ⟨_, _, _, _, _, _, _, h2⟩
      exact ⟨rfl, h3.mono (fun k _ hk => hk.imp_right (fun h => by omega)) (fun k _ hk => .inl hk), (Turn.of_chg (M := M) HC.out (fun k hk => .inl (by simp at hk; subst hk; exact HH.out.m0))).trans (M' := M) HT.out (fun _ h => .inl h)⟩
set_option maxRecDepth 100000 in
theorem dkArm_any {w : World} {g : Nat} {D : St.Dk} {M R : Nat → Prop} (h : DkAt w g D M R) (n : Int) (hn : (Lit.int .i64 n).wf = true) :
    Calls Tryz.prog 25 #[.pointer (some ⟨g, 0, none⟩), .int .i64 n] w fun e w' => e = .returned (.tuple #[]) ∧ DkAt w' g (D.arm n) M R ∧ Turn M w w' := by
  obtain ⟨gl, cl, gm, vw, sx, vs, ws, h⟩ := h
  obtain ⟨_, _, _, c3, _, _, cf⟩ := cells6 h.blk
  have HH := Lib.hid h
  have HN := Lib.hid hn
  clear h hn
  go_enter Tryz.func25, Tryz.ntmps25
  go_wp2
  go_end0
  refine ⟨rfl, ⟨gl, cl, gm, vw, sx, vs, ws, ?_⟩, (Turn.refl _ _).setCell (p := ⟨g, 3, none⟩) (.inl HH.out.m0) _⟩
  have hb := (dk_set (o := 3) (u := .int .i64 (max n 0)) HH.out.blk).trans rfl
  have hb2 := wf_bounds HN.out
  exact HH.out.power (chg_set _ _ _ _) (max n 0) D.off sx (WalkArith.wf_i64 (by omega)) D.steps hb
theorem dk_fresh {w : World} {gl cl N : Nat} {vs : List Value} {last : List (List UInt8)} {R : Nat → Prop} (hrow : Row w 44 (.slice (some ⟨gl, 0, none⟩) vs.length cl) vs) (hl : last.length = vs.length) (hb : vs.length ≤ 65536) (hs : ∀ i v, vs[i]? = some v → SecIs w (fun k => R k ∧ k ≠ gl) v (last.getD i [])) (hN : N ≤ gl) :
    DkIn ((w.alloc (.map #[] 0)).alloc (.cells #[.slice (some ⟨gl, 0, none⟩) vs.length cl, .map (some w.heap.size), .slice none 0 0, .int .i64 (-1), .bool false, .int .i64 0] 133)) (w.heap.size + 1) gl cl w.heap.size (.slice none 0 0) 0 vs [] ⟨last, [], -1, false, 0⟩ (fun k => N ≤ k) R := by
  have hgl : gl < w.heap.size := hrow.lt rfl
  have hsz : (w.alloc (.map #[] 0)).heap.size = w.heap.size + 1 := by simp
  have ta : Turn (fun _ => False) w ((w.alloc (.map #[] 0)).alloc (.cells #[.slice (some ⟨gl, 0, none⟩) vs.length cl, .map (some w.heap.size), .slice none 0 0, .int .i64 (-1), .bool false, .int .i64 0] 133)) := ((Turn.refl _ _).alloc _).alloc _
  have tb : Turn (fun _ => False) (w.alloc (.map #[] 0)) ((w.alloc (.map #[] 0)).alloc (.cells #[.slice (some ⟨gl, 0, none⟩) vs.length cl, .map (some w.heap.size), .slice none 0 0, .int .i64 (-1), .bool false, .int .i64 0] 133)) := (Turn.refl _ _).alloc _
  exact {
    blk := by
      have := heap_alloc_new (w.alloc (.map #[] 0)) (.cells #[.slice (some ⟨gl, 0, none⟩) vs.length cl, .map (some w.heap.size), .slice none 0 0, .int .i64 (-1), .bool false, .int .i64 0] 133)
      rw [hsz] at this
      exact this
    row := hrow.turn ta (fun _ _ h => h)
    secs := fun i v hv => ((hs i v hv).mono (A' := fun k => (R k ∧ k ≠ gl) ∧ k < w.heap.size) (fun k h1 h2 => ⟨h2, h1⟩)).turn ta (fun _ _ h => h) |>.mono (fun k _ hk => ⟨hk.1.1, by omega, hk.1.2, by omega, by simp [Value.ownBlock]⟩)
    len := hl
    big := hb
    wts := RowZ.nil _ _ _
    map := (VMap.made (P := Tryz.prog) (K := 3) w).turn tb (fun h => h)
    was := fun x hx => by cases hx
    wseq := rfl
    lwf := WalkArith.wf_i64 (n := -1) (by omega)
    m0 := by omega
    m1 := hN
    m2 := by omega
    m3 := fun k hk => by simp [Value.ownBlock] at hk
    d0 := by omega
    d1 := by omega
    d2 := by omega
    d3 := by simp [Value.ownBlock]
    d4 := by simp [Value.ownBlock]
    d5 := by simp [Value.ownBlock] }
theorem infoRow : (Tryz.prog.info? 44).map (fun i => (i.zero, i.size, i.bytes)) = some (some (.slice none 0 0), 1, 24) := by kernel_rfl
set_option maxRecDepth 100000 in
set_option maxHeartbeats 2000000 in
theorem dkNew_any (n : Nat) (h1 : 1 ≤ n) (h2 : n ≤ 65536) (w : World) :
    Calls Tryz.prog 22 #[.int .i64 (n : Int)] w fun e w' => ∃ g, e = .returned (.tuple #[.pointer (some ⟨g, 0, none⟩), .int .i64 0]) ∧ w.heap.size ≤ g ∧ DkAt w' g (St.Dk.new n) (fun k => w.heap.size ≤ k) (fun _ => False) ∧ Below w.heap.size w w' := by
  have hm : (Instr.makeSlice 112 (.int .i64 (n : Int)) (.int .i64 (n : Int))).run Tryz.prog w = .ok (.slice (some ⟨w.heap.size, 0, none⟩) n n) (w.alloc (.cells (madeCells #[.slice none 0 0] n) 44)) := by
    obtain ⟨i0, hi, hz0, hz1, hz2⟩ := info_parts infoRow
    have := run_make (P := Tryz.prog) w 112 44 i0 (.slice none 0 0) Tryz.underlying112 hi hz0 .i64 .i64 n n (by omega) (Int.le_refl _) (by rw [hz2]; omega) (by omega)
    rw [hz1, Int.toNat_natCast, Nat.mul_one] at this
    exact this
  have hmm := @run_makeMap Tryz.prog
  have g1 : ¬ (n : Int) < 1 := by omega
  have g2 : ¬ (65536 : Int) < (n : Int) := by omega
  go_enter Tryz.func22, Tryz.ntmps22
  go_wp2
  go_ret2
  have hrow : Row (w.alloc (.cells (madeCells #[.slice none 0 0] n) 44)) 44 (.slice (some ⟨w.heap.size, 0, none⟩) n n) (List.replicate n (.slice none 0 0)) := by
    have hsz : (madeCells #[Value.slice none 0 0] n).size = n := by simp [madeCells]
    have h := World.ownsRow_lit (base := 0) (e := 44) (size := 1) w (madeCells #[.slice none 0 0] n) n (Nat.zero_le _) (by unfold maxLen; omega) (by rw [hsz, Nat.mul_one])
    have e : (madeCells #[Value.slice none 0 0] n).toList = List.replicate n (.slice none 0 0) := by
      apply List.ext_getElem (by simp [madeCells])
      intro j h1 h2
      simp [madeCells, Nat.mod_one]
    rw [e] at h
    unfold Row
    rw [List.length_replicate]
    exact h
  have hz : (w.alloc (.cells (madeCells #[.slice none 0 0] n) 44)).heap.size = w.heap.size + 1 := by simp
  have hd := dk_fresh (vs := List.replicate n (.slice none 0 0)) (last := List.replicate n (St.zeros 512)) (R := fun _ => False) (cl := n) (gl := w.heap.size) (N := w.heap.size) (by rw [List.length_replicate]; exact hrow) (by simp) (by simp; omega) (fun i v hv => by
    have hi := (List.getElem?_eq_some_iff.1 hv).1
    rw [List.length_replicate] at hi
    rw [List.getElem?_replicate, if_pos hi] at hv
    cases hv
    exact .inl ⟨rfl, by simp [List.getD_eq_getElem?_getD, List.getElem?_replicate, hi]⟩) (Nat.le_refl _)
  rw [hz, List.length_replicate] at hd
  exact ⟨w.heap.size + 1 + 1, rfl, by omega, ⟨_, _, _, _, _, _, _, hd⟩, (((Below.refl _ _).alloc (Nat.le_refl _) _).alloc (by simp) _).alloc (by simp; omega) _⟩
end Go.Proofs.YtcpgbekcbaelpaaGreatDoor
