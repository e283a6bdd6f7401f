/- The reference's heap: pins. -/
import Derived.Test.YtlbiapgikkjooaaRh2
import Derived.Test.YtlbiapgikkjooaaTail
namespace Go.Proofs.Ytlbiapgikkjooaa
open Go.RowKit Go.Maps Hp
set_option linter.unusedSimpArgs false
set_option linter.unusedSectionVars false
set_option linter.unusedVariables false

theorem three_new {w : World} {a b c : Value} {t : TypeId} : ∀ j u, [a, b, c][j]? = some u → (w.alloc (.cells #[a, b, c] t)).cell? ((⟨w.heap.size, 0, none⟩ : Addr).add j) = some u :=
  World.news_of_block (cs := #[a, b, c]) (fr := (0, 0)) (heap_alloc_new w _)
theorem chg_put {q o : Nat} {w wr : World} (hb : Below w.heap.size w wr) (u : Value) : Chg [q] w (wr.setCell ⟨q, o, none⟩ u) :=
  ((⟨hb.os, hb.tape, hb.output, hb.size, fun i hi _ => hb.block i hi⟩ : Chg [q] w wr)).setCell (.inl (by simp)) u
section
variable {w : World} {q lim : Nat} {vl vs vp : Value} {L : List (Ob × Value)} {S : List Ref} {P : List (Int × Ref)}
theorem RefIs.later {w' : World} (h : RefIs w q lim vl vs vp L S P) (hb : Below w.heap.size w w') : RefIs w' q lim vl vs vp L S P :=
  h.chg (chg_of_below hb) fun k hk hm => by
    have := h.lt k hk
    have := (List.mem_range'_1.1 hm).1
    omega
theorem RefIs.pin_at (h : RefIs w q lim vl vs vp L S P) {ao : Option Addr} {cap : Nat} (hv : vp = .slice ao P.length cap) {i : Nat} {x : Int × Ref} (hx : P[i]? = some x) :
    ∃ g, ao = some ⟨g, 0, none⟩ ∧ w.cell? ⟨g, i * 3, none⟩ = some (.int .i64 x.1) ∧ w.cell? ⟨g, i * 3 + 1, none⟩ = some (.bool x.2.obj) ∧ w.cell? ⟨g, i * 3 + 2, none⟩ = some (.int .i64 x.2.n) := by
  subst hv
  have hl := (List.getElem?_eq_some_iff.1 hx).1
  have hrp := h.rp
  have hpl := pcells_length P
  obtain ⟨ao', cap', e, h1, h2, h3, h4⟩ := h.rp.form
  cases e
  obtain ⟨g, rfl⟩ : ∃ g, ao = some ⟨g, 0, none⟩ := by
    cases ao with
    | none => have := h3 rfl; omega
    | some a => obtain ⟨g, rfl, _⟩ := h4 a rfl; exact ⟨g, rfl⟩
  obtain ⟨e0, e1, e2⟩ := pcells_get hx
  exact ⟨g, rfl, by rw [hrp.cellAt _ (by omega)]; exact e0, by rw [hrp.cellAt _ (by omega)]; exact e1, by rw [hrp.cellAt _ (by omega)]; exact e2⟩
theorem Appended.out {w w' : World} {v v' : Value} (h : Appended w v w' v') {k : Nat} (hk : v'.ownBlock = some k) : v.ownBlock = some k ∨ k = w.heap.size := by
  rcases h.2 with e | e
  · exact .inl (e ▸ hk)
  · rw [e] at hk; cases hk; exact .inr rfl
theorem RefIs.foot_new (h : RefIs w q lim vl vs vp L S P) {k : Nat} (hk : k = w.heap.size) : k ∉ rfoot q vl vs vp L := fun hm => by have := h.lt k hm; omega
theorem RefIs.appP {w' : World} {vp' : Value} {P' : List (Int × Ref)} (h : RefIs w q lim vl vs vp L S P) (hr : RowZ w' 84 3 vp' P'.length (pcells P')) (ha : Appended w vp w' vp') :
    RefIs (w'.setCell ⟨q, 3, none⟩ vp') q lim vl vs vp' L S P' ∧ Chg (rfoot q vl vs vp L) w (w'.setCell ⟨q, 3, none⟩ vp') := by
  have hc := ha.chg
  have hv : ∀ k, vp'.ownBlock = some k → k ≠ q ∧ vl.ownBlock ≠ some k ∧ vs.ownBlock ≠ some k ∧ ∀ x ∈ L, x.2.ownBlock ≠ some k := fun k hk => by
    rcases ha.out hk with e | e
    · exact ⟨fun e' => h.n3 (e' ▸ e), fun e' => (h.n4 k e').2 e, fun e' => h.n5 k e' e, fun x hx e' => (h.n6 x hx k e').2.2.2 e⟩
    · have e := h.foot_new e
      rw [mem_rfoot] at e
      exact ⟨fun e' => e (.inl e'), fun e' => e (.inr (.inl e')), fun e' => e (.inr (.inr (.inl e'))), fun x hx e' => e (.inr (.inr (.inr (.inr ⟨x, hx, e'⟩))))⟩
  have hk : ∀ {k : Nat}, k ∈ vp.ownBlock.toList → vp.ownBlock = some k := fun h => by simpa using h
  have hd : w'.heap[q]? = some (.cells #[.int .i64 lim, vl, vs, vp] 60 (0, 0)) := (hc.block q (lt_of_block h.hdr) (fun e => h.n3 (hk e))).trans h.hdr
  have hs : Chg [q] w' (w'.setCell ⟨q, 3, none⟩ vp') := chg_set w' q 3 vp'
  refine ⟨⟨hdr_set hd, (h.rl.chg hc (fun k hk' e => (h.n4 k hk').2 (hk e))).chg hs (fun k hk' e => by simp at e; exact h.n1 (e ▸ hk')), (h.rs.chg hc (fun k hk' e => h.n5 k hk' (hk e))).chg hs (fun k hk' e => by simp at e; exact h.n2 (e ▸ hk')), hr.chg hs (fun k hk' e => by simp at e; exact (hv k hk').1 e),
    fun x hx => ((h.rf x hx).chg hc (fun k hk' e => (h.n6 x hx k hk').2.2.2 (hk e))).chg hs (fun k hk' e => by simp at e; exact (h.n6 x hx k hk').1 e), h.n1, h.n2, fun e => (hv q e).1 rfl, fun k hk' => ⟨(h.n4 k hk').1, fun e => (hv k e).2.1 hk'⟩, fun k hk' e => (hv k e).2.2.1 hk',
    fun x hx k hk' => ⟨(h.n6 x hx k hk').1, (h.n6 x hx k hk').2.1, (h.n6 x hx k hk').2.2.1, fun e => (hv k e).2.2.2 x hx hk'⟩⟩, ?_⟩
  exact (hc.mono (F' := rfoot q vl vs vp L) (fun k e => mem_rfoot.2 (.inr (.inr (.inr (.inl (hk e))))))).setCell (p := ⟨q, 3, none⟩) (.inl (mem_rfoot.2 (.inl rfl))) _
def UnLoop (w : World) (P : List (Int × Ref)) (key : Int) (gk : Nat) (s4 s5 : Value) (wr : World) : Prop :=
  ∃ i : Nat, s5 = .int .i64 i ∧ i + gk = P.length ∧ RowZ wr 84 3 s4 ((P.take i).filter fun x => x.1 != key).length (pcells ((P.take i).filter fun x => x.1 != key)) ∧ (∀ k, s4.ownBlock = some k → w.heap.size ≤ k) ∧ Below w.heap.size w wr
def UnPost (w : World) (q lim : Nat) (vl vs vp : Value) (L : List (Ob × Value)) (S : List Ref) (P : List (Int × Ref)) (key : Int) (e : Ending) (w' : World) : Prop :=
  e = .returned (.tuple #[]) ∧ ∃ vp', RefIs w' q lim vl vs vp' L S (P.filter fun x => x.1 != key) ∧ Chg [q] w w' ∧ ∀ k, vp'.ownBlock = some k → w.heap.size ≤ k
theorem filter_len {α : Type} (p : α → Bool) (l : List α) (i : Nat) : ((l.take i).filter p).length ≤ l.length := Nat.le_trans (List.length_filter_le _ _) (by rw [List.length_take]; omega)
theorem take_next {α : Type} {l : List α} {i : Nat} {x : α} (h : l[i]? = some x) : l.take (i + 1) = l.take i ++ [x] := by rw [List.take_add_one, h]; rfl
set_option maxRecDepth 100000 in
set_option maxHeartbeats 1600000 in
theorem refUnpin_any (h : RefIs w q lim vl vs vp L S P) (key : Int) (hP : P.length ≤ 1000000) :
    Calls Try.prog 41 #[.pointer (some ⟨q, 0, none⟩), .int .i64 key] w (UnPost w q lim vl vs vp L S P key) := by
  obtain ⟨ao, cap, hvp, _⟩ := h.rp.form
  have HH := Lib.hid h
  have hl : (P.length : Int) ≤ 1000000 := by omega
  have HL : Hid (UnLoop w P key P.length (.slice none 0 0) (.int .i64 0) w) := ⟨0, rfl, Nat.zero_add _, RowZ.nil _ _ _, fun k hk => by simp [Value.ownBlock] at hk, Below.refl _ _⟩
  have HVP := Lib.hid hvp
  clear h hvp
  go_enter Try.func41, Try.ntmps41
  go_wp2
  go_loopg [4, 5] P.length (fun gk s4 s5 wr => UnLoop w P key gk s4 s5 wr)
  case atStart => exact HL.out
  case round =>
    clear HL
    obtain ⟨i, rfl, hig, hr, hN, hb⟩ := hrel
    have hw := HH.out.later hb
    have c3 := hw.c3
    rw [HVP.out] at c3
    have i0 : (0 : Int) ≤ (i : Int) := by omega
    have HIG := Lib.hid hig
    have HR := Lib.hid hr
    have HN := Lib.hid hN
    have HB := Lib.hid hb
    by_cases hlt : i < P.length
    · obtain ⟨x, hx⟩ : ∃ x, P[i]? = some x := ⟨_, List.getElem?_eq_getElem hlt⟩
      obtain ⟨g, hao, d0, d1, d2⟩ := hw.pin_at HVP.out hx
      subst hao
      have i1 : (i : Int) < (P.length : Int) := by omega
      have HT := Lib.hid (take_next hx)
      have HFL := Lib.hid (filter_len (fun x : Int × Ref => x.1 != key) P i)
      clear hig hx hr hN hb hw
      by_cases hk : x.1 = key
      · have qq := hk
        have HK : Hid ((P.take (i + 1)).filter (fun x => x.1 != key) = (P.take i).filter (fun x => x.1 != key)) := by
          show _ = _
          rw [HT.out, List.filter_append]
          simp [hk]
        clear hk
        go_wp2
        go_roundg (gk - 1)
        case measure => have := HIG.out; omega
        case rel => exact ⟨i + 1, by go_num, by have := HIG.out; omega, by rw [HK.out]; exact HR.out, HN.out, HB.out⟩
      · have qq : (x.1 != key) = true := bne_iff_ne.2 hk
        have HK : Hid ((P.take (i + 1)).filter (fun x => x.1 != key) = (P.take i).filter (fun x => x.1 != key) ++ [x]) := by
          show _ = _
          rw [HT.out, List.filter_append]
          congr 1
          simp [hk]
        clear hk
        go_wp2_with (at_builtin; refine wpList_apps (by rfl) (.tmp 25) (.tmp 33) 58 (by rfl) Try.underlying58 infoPin (by rfl) (by omega) (by rfl) (HR.out.chg ((Chg.refl [] _).alloc _) (fun _ _ => by simp)) (by rfl) (.inr ⟨_, 1, rfl, three_new⟩) (by rfl) (by simp [Value.oneCell']) (by have := HFL.out; omega) (by omega) ?_; intro ao2 cap2 w' hr' ha'; have HR2 := Lib.hid hr'; have HA2 := Lib.hid ha'; clear hr' ha')
        go_roundg (gk - 1)
        case measure => have := HIG.out; omega
        case rel =>
          refine ⟨i + 1, by go_num, by have := HIG.out; omega, ?_, ?_, ?_⟩
          · rw [HK.out, pcells_append, List.length_append]
            exact HR2.out
          · intro k hk
            rcases HA2.out.2 with e | e
            · exact HN.out k (e ▸ hk)
            · rw [e] at hk; cases hk; have := HB.out.size; simp; omega
          · refine (HB.out.alloc HB.out.size _).trans ((HA2.out.chg).below ?_ ?_)
            · have := HB.out.size; simp; omega
            · intro k hk
              exact HN.out k (by simpa using hk)
    · have hge : ¬ (i : Int) < (P.length : Int) := by omega
      have HE : Hid (P.take i = P) := List.take_of_length_le (by omega)
      have f3 := hw.fr 3
      obtain ⟨a4, c4, h4, _⟩ := hr.form
      obtain ⟨n4, hn4⟩ : ∃ n, n = ((P.take i).filter fun x => x.1 != key).length := ⟨_, rfl⟩
      rw [← hn4] at h4
      have HN4 := Lib.hid hn4
      clear hn4
      subst h4
      have HW := Lib.hid hw
      clear hig hr hN hb hw
      go_wp2
      go_end0
      refine ⟨rfl, _, ?_, ?_, HN.out⟩
      · have := HR.out
        rw [HE.out] at this
        exact HW.out.setP this fun k hk => .inr fun hm => by have := HN.out k hk; have := HH.out.lt k hm; omega
      · exact chg_put HB.out _
theorem rfoot_sub {q : Nat} {vl vs vp vp' : Value} {L : List (Ob × Value)} {N : Nat} (h : ∀ k, vp'.ownBlock = some k → N ≤ k) : ∀ k ∈ rfoot q vl vs vp' L, k ∈ rfoot q vl vs vp L ∨ N ≤ k := fun k hk => by
  rcases mem_rfoot.1 hk with e | e | e | e | e
  · exact .inl (mem_rfoot.2 (.inl e))
  · exact .inl (mem_rfoot.2 (.inr (.inl e)))
  · exact .inl (mem_rfoot.2 (.inr (.inr (.inl e))))
  · exact .inr (h k e)
  · exact .inl (mem_rfoot.2 (.inr (.inr (.inr (.inr e)))))
def PinPost (w : World) (q lim : Nat) (vl vs vp : Value) (L : List (Ob × Value)) (S : List Ref) (P : List (Int × Ref)) (key : Int) (r : Ref) (e : Ending) (w' : World) : Prop :=
  e = .returned (.tuple #[]) ∧ ∃ vp', RefIs w' q lim vl vs vp' L S ((P.filter fun x => x.1 != key) ++ [(key, r)]) ∧ Chg (rfoot q vl vs vp L) w w' ∧ ∀ k, vp'.ownBlock = some k → w.heap.size ≤ k
set_option maxRecDepth 100000 in
set_option maxHeartbeats 1600000 in
theorem refPin_any (h : RefIs w q lim vl vs vp L S P) (key : Int) (r : Ref) (hP : P.length ≤ 1000000) :
    Calls Try.prog 39 #[.pointer (some ⟨q, 0, none⟩), .int .i64 key, rv r] w (PinPost w q lim vl vs vp L S P key r) := by
  have HU := Lib.hid (refUnpin_any (h.alloc (.cells #[.bool r.obj, .int .i64 r.n] 27)) key hP)
  have HQ : Hid (q < w.heap.size) := lt_of_block h.hdr
  have HFL : Hid ((P.filter fun x => x.1 != key).length ≤ 1000000) := Nat.le_trans (List.length_filter_le _ _) hP
  clear h hP
  unfold rv
  go_enter Try.func39, Try.ntmps39
  go_wp2_with (go_at_call 41; refine HU.out.mono ?_; rintro e w1 ⟨rfl, vp1, hr1, hc1, hn1⟩; have HR1 := Lib.hid hr1; have HC1 := Lib.hid hc1; have HN1 := Lib.hid hn1; clear hr1 hc1 hn1)
  have c3 := HR1.out.c3
  obtain ⟨a1, cap1, h1, _⟩ := HR1.out.rp.form
  obtain ⟨n1, hn1⟩ : ∃ n, n = (P.filter fun x => x.1 != key).length := ⟨_, rfl⟩
  rw [← hn1] at h1
  have HN4 := Lib.hid hn1
  clear hn1
  subst h1
  have hne : w.heap.size ∉ [q] := by have := HQ.out; simp; omega
  have b0 : w1.cell? ⟨w.heap.size, 0, none⟩ = some (.bool r.obj) := by
    rw [HC1.out.cell (p := ⟨w.heap.size, 0, none⟩) (by simp) hne]
    simp
  have b1 : w1.cell? ⟨w.heap.size, 1, none⟩ = some (.int .i64 r.n) := by
    rw [HC1.out.cell (p := ⟨w.heap.size, 1, none⟩) (by simp) hne]
    simp
  clear hne
  have HRR := Lib.hid (HR1.out.rp)
  have C3 : Hid (∀ o, (w1.drew.alloc o).cell? ⟨q, 3, none⟩ = some (.slice a1 n1 cap1)) := fun o => ((HR1.out.drewN 1).alloc o).c3
  have F3 : Hid (∀ o, (w1.drew.alloc o).frozen? ⟨q, 3, none⟩ = false) := fun o => ((HR1.out.drewN 1).alloc o).fr 3
  have LQ : Hid (∀ o, q < (w1.drew.alloc o).heap.size) := fun o => ((HR1.out.drewN 1).alloc o).lt q (mem_rfoot.2 (.inl rfl))
  have NQ : Hid (some q ≠ (Value.slice a1 n1 cap1).ownBlock) := fun e => HR1.out.n3 e.symm
  have a3 := fun o => (HR1.out.alloc o).c3
  have b0a : ∀ o, (w1.alloc o).cell? ⟨w.heap.size, 0, none⟩ = some (.bool r.obj) := fun o => by rw [World.cell?_alloc_some _ _ _ (by rw [b0]; rfl)]; exact b0
  have b1a : ∀ o, (w1.alloc o).cell? ⟨w.heap.size, 1, none⟩ = some (.int .i64 r.n) := fun o => by rw [World.cell?_alloc_some _ _ _ (by rw [b1]; rfl)]; exact b1
  go_region_law (first
    | (refine step_apps (by rfl) _ _ 58 rfl Try.underlying58 infoPin rfl (by omega) (by rfl) ((HRR.out.chg ((Chg.refl [] _).drewN 1) (fun _ _ => by simp)).chg ((Chg.refl [] _).alloc _) (fun _ _ => by simp)) (by rfl) (.inr ⟨_, 1, rfl, three_new⟩) (by rfl) (by simp [Value.oneCell']) (by have := HFL.out; have := HN4.out; omega) (by omega) ?_; intro ao2 cap2 w' hr' ha'; have HR2 := Lib.hid hr'; have HA2 := Lib.hid ha'; have k3 := (ha'.1.cell_far ⟨q, 3, none⟩ (LQ.out _) NQ.out).trans (C3.out _); have k4 := (ha'.1.frozen_far ⟨q, 3, none⟩ (LQ.out _) NQ.out).trans (F3.out _); clear hr' ha'))
  all_goals
    go_end0
    have hE : pcells ((P.filter fun x => x.1 != key) ++ [(key, r)]) = pcells (P.filter fun x => x.1 != key) ++ [.int .i64 key, .bool r.obj, .int .i64 r.n] := pcells_append _ _
    obtain ⟨g1, g2⟩ := ((HR1.out.drewN 1).alloc _).appP (P' := (P.filter fun x => x.1 != key) ++ [(key, r)]) (by rw [List.length_append, hE]; exact HR2.out) HA2.out
    have hsz : w.heap.size ≤ w1.heap.size := by have := HC1.out.size; simp at this; omega
    refine ⟨rfl, _, g1, ?_, fun k hk => ?_⟩
    · have c0 : Chg [q] w (w.alloc (.cells #[.bool r.obj, .int .i64 r.n] 27)) := (Chg.refl [q] w).alloc _
      have c1 := ((c0.trans HC1.out (fun k hk => .inl hk)).drewN 1).alloc (.cells #[.int .i64 key, .bool r.obj, .int .i64 r.n] 84)
      refine (c1.mono (F' := rfoot q vl vs vp L) (fun k hk => mem_rfoot.2 (.inl (by simpa using hk)))).trans g2 (fun k hk => ?_)
      have hj : ∀ j, (Value.slice a1 n1 cap1).ownBlock = some j → w.heap.size ≤ j := fun j hj => by
        have := HN1.out j hj
        simp at this
        omega
      rcases rfoot_sub (vp := vp) hj k hk with e | e
      · exact .inl e
      · exact .inr e
    · rcases HA2.out.out hk with e | e
      · have := HN1.out k e
        simp at this
        omega
      · subst e
        simp
        omega
end
end Go.Proofs.Ytlbiapgikkjooaa
