/- Layer 10: a step of the scanner. -/
import Derived.Test.YtlailomhgipppaaGreatDoorLexSt0
namespace Go.Proofs.YtlailomhgipppaaGreatDoor
open Go.RowKit Lx
set_option linter.unusedVariables false
set_option linter.unusedSimpArgs false

theorem idx_iff (l : List UInt8) (c : UInt8) : 0 ≤ Lib.indexByte l c ↔ l.contains c = true := by
  induction l with
  | nil =>
    unfold Lib.indexByte
    exact ⟨fun h => by omega, fun h => by cases h⟩
  | cons a l ih =>
    have ge := Lib.indexByte_ge l c
    by_cases h : a = c
    · subst h
      have e : Lib.indexByte (a :: l) a = 0 := by unfold Lib.indexByte; rw [if_pos (beq_self_eq_true a)]
      rw [e]
      exact ⟨fun _ => by rw [List.contains_cons, beq_self_eq_true]; rfl, fun _ => by omega⟩
    · have h2 : (c == a) = false := beq_eq_false_iff_ne.2 (fun e => h e.symm)
      have e : Lib.indexByte (a :: l) c = if (Lib.indexByte l c == -1) = true then -1 else Lib.indexByte l c + 1 := by
        conv => lhs; unfold Lib.indexByte
        rw [if_neg (by simpa using h)]
      rw [e, List.contains_cons, h2, Bool.false_or, ← ih]
      by_cases h5 : Lib.indexByte l c = -1
      · rw [if_pos (by simpa using h5), h5]
      · rw [if_neg (by simpa using h5)]; omega
theorem blank_any (c : UInt8) (w : World) : Calls Tryz.prog 23 #[.string ⟨#[32, 9, 10]⟩, .int .u8 c.toNat] w fun e w' => e = .returned (.int .i64 (Lib.indexByte [32, 9, 10] c)) ∧ w' = w := by
  have h := Tryz.strings_IndexByte ⟨#[32, 9, 10]⟩ (c.toNat : Int) w
  have e : ((c.toNat : Int).toNat).toUInt8 = c := by simp
  rw [e] at h
  exact h
theorem ends_any (c : UInt8) (w : World) : Calls Tryz.prog 23 #[.string ⟨#[32, 9, 10, 40, 41, 34, 59]⟩, .int .u8 c.toNat] w fun e w' => e = .returned (.int .i64 (Lib.indexByte [32, 9, 10, 40, 41, 34, 59] c)) ∧ w' = w := by
  have h := Tryz.strings_IndexByte ⟨#[32, 9, 10, 40, 41, 34, 59]⟩ (c.toNat : Int) w
  have e : ((c.toNat : Int).toNat).toUInt8 = c := by simp
  rw [e] at h
  exact h
set_option maxRecDepth 100000 in
theorem more_q (w : World) (p i n : Nat) (src : ByteArray) (q : Pos) (vo : Value) (h : Sc w p src i q vo) :
    Calls Tryz.prog 13 #[.pointer (some ⟨p, 0, none⟩)] (w.drewN n) fun e w' => e = .returned (.bool (decide (i < src.size))) ∧ ∃ m, w' = w.drewN m := by
  have c0 := h.c0
  have c1 := h.c1
  clear h
  go_enter Tryz.func13, Tryz.ntmps13
  go_wp2
  go_quiet (fail)
  go_wp2
  go_ret
  exact ⟨by simp, _, World.drewN_drewN _ _ _⟩
theorem qs1 {P : Program} {f : FuncId} {args : Array Value} {w : World} {n : Nat} {v : Value}
    (h : Calls P f args (w.drewN n) fun e w' => e = .returned v ∧ w' = w.drewN n) : Calls P f args (w.drewN n) fun e w'' => e = .returned v ∧ ∃ m, w'' = w.drewN m :=
  h.mono fun _ _ ⟨he, hm⟩ => ⟨he, n, hm⟩
theorem take_more {l : List UInt8} {i j : Nat} {d : UInt8} {r : List UInt8} (hij : i ≤ j) (h : l.drop j = d :: r) : (l.drop i).take (j + 1 - i) = (l.drop i).take (j - i) ++ [d] := by
  have h2 : (l.drop i)[j - i]? = some d := by
    rw [List.getElem?_drop, show i + (j - i) = j by omega]
    have h3 : (l.drop j)[0]? = some d := by rw [h]; rfl
    rwa [List.getElem?_drop] at h3
  rw [show j + 1 - i = (j - i) + 1 by omega, List.take_add_one, h2]
  rfl
/-- A loop that goes on while a byte is one of some. -/
def WLoop (N : Nat) (w0 : World) (p bx : Nat) (q0 : Pos) (src : ByteArray) (ts : List Tok) (vo : Value) (pred : UInt8 → Bool) (i0 : Nat) (rf wf : List UInt8) (qf : Pos) (gk : Nat) (wr : World) : Prop :=
  ∃ j q', i0 ≤ j ∧ j + gk = src.size ∧ PosOk j q' ∧ (src.data.toList.drop j).dropWhile pred = rf ∧ advs q' ((src.data.toList.drop j).takeWhile pred) = qf ∧ (src.data.toList.drop i0).take (j - i0) ++ (src.data.toList.drop j).takeWhile pred = wf ∧ LB N w0 p bx q0 src j q' ts vo wr
theorem blank_iff (c : UInt8) : 0 ≤ Lib.indexByte [32, 9, 10] c ↔ isBl c = true := by
  rw [idx_iff]
  unfold isBl
  simp [or_assoc]
theorem ends_iff (c : UInt8) : 0 ≤ Lib.indexByte [32, 9, 10, 40, 41, 34, 59] c ↔ isEnd c = true := by
  rw [idx_iff]
  unfold isEnd
  simp [or_assoc]
set_option maxRecDepth 100000 in
set_option maxHeartbeats 8000000 in
theorem step_blank (N : Nat) (w0 w : World) (p i : Nat) (src : ByteArray) (q : Pos) (ts : List Tok) (vo : Value) (h : LS N w0 p src i q ts vo w) (hs : src.size ≤ 100000) (hq : PosOk i q) (c : UInt8) (r : List UInt8) (hcr : src.data.toList.drop i = c :: r)
    (hts : ts.length ≤ i) (hF : FTab w0) (hE : ErrVar w0) (hN : w0.heap.size ≤ N) (hb : isBl c = true) :
    Calls Tryz.prog 14 #[.pointer (some ⟨p, 0, none⟩)] w (StepEnd N w0 p src ts (Lx.stepT c r q)) := by
  have c1 := h.sc.c1
  have c2 := h.sc.c2
  have c3 := h.sc.c3
  have HLB := Lib.hid (LB.start h)
  have hLEN : src.data.toList.length = src.size := (Lib.size_eq src).symm
  have hlt : i < src.size := by
    have := congrArg List.length hcr
    rw [List.length_drop, hLEN, List.length_cons] at this
    omega
  have hrl : r.length + i + 1 = src.size := by
    have := congrArg List.length hcr
    rw [List.length_drop, hLEN, List.length_cons] at this
    omega
  have hdr : src.data.toList.drop (i + 1) = r := by rw [← List.drop_drop, hcr]; rfl
  have hc : src[i]'hlt = c := by
    have := Lib.getD_at src i hlt
    have h2 : src.data.toList[i]? = some c := by
      have h3 : (src.data.toList.drop i)[0]? = some c := by rw [hcr]; rfl
      rwa [List.getElem?_drop] at h3
    rw [List.getD_eq_getElem?_getD, h2] at this
    exact this
  obtain ⟨hq1, hq2⟩ := hq.le (by omega)
  have HN : Hid (∀ W, LB N w0 p w.heap.size q src i q ts vo W → Calls Tryz.prog 22 #[.pointer (some ⟨p, 0, none⟩)] W fun e w' => e = .returned (.int .u8 c.toNat) ∧ LB N w0 p w.heap.size q src (i + 1) (adv q c) ts vo w') := fun W hW =>
    (next_any W p i src q vo hW.ls.sc hlt c hc (by omega) (by omega) (by omega)).mono fun e w' ⟨he, h3, h4⟩ => ⟨he, hW.next h3 h4⟩
  have HQ := Lib.hid hq
  have HTS := Lib.hid hts
  have HSZ := Lib.hid hs
  have HFT := Lib.hid hF
  have HEV := Lib.hid hE
  have HNN := Lib.hid hN
  have HDR := Lib.hid hdr
  have HRL := Lib.hid hrl
  have HLT := Lib.hid hlt
  have HLEN := Lib.hid hLEN
  have HBI := Lib.hid (fun W => blank_any c W)
  have hbi := blank_iff c
  generalize Lib.indexByte [32, 9, 10] c = bi at HBI hbi
  have hst : Lx.stepT c r q = .ok (r, adv q c, []) := by unfold Lx.stepT; rw [if_pos hb]
  rw [hst]
  have nb : 0 ≤ bi := hbi.2 hb
  have db : decide (0 ≤ bi) = true := decide_eq_true nb
  clear hst hb hbi
  clear h hLEN hlt hrl hdr hc hq1 hq2 hq hts hs hF hE hN hcr
  go_enter Tryz.func14, Tryz.ntmps14
  go_wp2
  go_region_held3 (fun w' => w'.cell? ⟨p, 1, none⟩ = some (.int .i64 i) ∧ w'.cell? ⟨p, 2, none⟩ = some (.int .i64 q.1) ∧ w'.cell? ⟨p, 3, none⟩ = some (.int .i64 q.2)) (go_keep) (fail)
  go_wp2_with (first
    | (go_at_call 22; (with_reducible refine (HN.out _ HLB.out).mono ?_); rintro e w1 ⟨rfl, hb⟩; have HB := Lib.hid hb; clear hb HN; dsimp only)
    | (go_at_call 23; (with_reducible refine (HBI.out _).mono ?_); rintro e w_ ⟨rfl, hw⟩; rw [hw]; clear hw w_; dsimp only))
  go_end0
  exact ⟨rfl, i + 1, vo, by have := HLT.out; omega, HDR.out, HQ.out.adv c, by rw [List.append_nil]; exact HB.out.ls⟩
set_option maxRecDepth 100000 in
set_option maxHeartbeats 8000000 in
theorem step_open (N : Nat) (w0 w : World) (p i : Nat) (src : ByteArray) (q : Pos) (ts : List Tok) (vo : Value) (h : LS N w0 p src i q ts vo w) (hs : src.size ≤ 100000) (hq : PosOk i q) (c : UInt8) (r : List UInt8) (hcr : src.data.toList.drop i = c :: r)
    (hts : ts.length ≤ i) (hF : FTab w0) (hE : ErrVar w0) (hN : w0.heap.size ≤ N) (hc0 : c = 40) :
    Calls Tryz.prog 14 #[.pointer (some ⟨p, 0, none⟩)] w (StepEnd N w0 p src ts (Lx.stepT c r q)) := by
  have c1 := h.sc.c1
  have c2 := h.sc.c2
  have c3 := h.sc.c3
  have HLB := Lib.hid (LB.start h)
  have hLEN : src.data.toList.length = src.size := (Lib.size_eq src).symm
  have hlt : i < src.size := by
    have := congrArg List.length hcr
    rw [List.length_drop, hLEN, List.length_cons] at this
    omega
  have hrl : r.length + i + 1 = src.size := by
    have := congrArg List.length hcr
    rw [List.length_drop, hLEN, List.length_cons] at this
    omega
  have hdr : src.data.toList.drop (i + 1) = r := by rw [← List.drop_drop, hcr]; rfl
  have hc : src[i]'hlt = c := by
    have := Lib.getD_at src i hlt
    have h2 : src.data.toList[i]? = some c := by
      have h3 : (src.data.toList.drop i)[0]? = some c := by rw [hcr]; rfl
      rwa [List.getElem?_drop] at h3
    rw [List.getD_eq_getElem?_getD, h2] at this
    exact this
  obtain ⟨hq1, hq2⟩ := hq.le (by omega)
  have HN : Hid (∀ W, LB N w0 p w.heap.size q src i q ts vo W → Calls Tryz.prog 22 #[.pointer (some ⟨p, 0, none⟩)] W fun e w' => e = .returned (.int .u8 c.toNat) ∧ LB N w0 p w.heap.size q src (i + 1) (adv q c) ts vo w') := fun W hW =>
    (next_any W p i src q vo hW.ls.sc hlt c hc (by omega) (by omega) (by omega)).mono fun e w' ⟨he, h3, h4⟩ => ⟨he, hW.next h3 h4⟩
  have HQ := Lib.hid hq
  have HTS := Lib.hid hts
  have HSZ := Lib.hid hs
  have HFT := Lib.hid hF
  have HEV := Lib.hid hE
  have HNN := Lib.hid hN
  have HDR := Lib.hid hdr
  have HRL := Lib.hid hrl
  have HLT := Lib.hid hlt
  have HLEN := Lib.hid hLEN
  have HBI := Lib.hid (fun W => blank_any c W)
  have hbi := blank_iff c
  generalize Lib.indexByte [32, 9, 10] c = bi at HBI hbi
  subst hc0
  have hnb : isBl 40 = false := rfl
  have ec : (((40 : UInt8).toNat : Nat) : Int) = 40 := rfl
  rw [ec] at HN HBI
  have hst : Lx.stepT 40 r q = .ok (r, adv q 40, [⟨0, q.1, q.2, 0, []⟩]) := rfl
  rw [hst]
  have nb : ¬ 0 ≤ bi := fun h => by rw [hbi.1 h] at hnb; cases hnb
  have db : decide (0 ≤ bi) = false := decide_eq_false nb
  have e1 : ((40 : Int) == 59) = false := rfl
  clear hst hnb hbi
  clear h hLEN hlt hrl hdr hc hq1 hq2 hq hts hs hF hE hN hcr
  go_enter Tryz.func14, Tryz.ntmps14
  go_wp2
  go_region_held3 (fun w' => w'.cell? ⟨p, 1, none⟩ = some (.int .i64 i) ∧ w'.cell? ⟨p, 2, none⟩ = some (.int .i64 q.1) ∧ w'.cell? ⟨p, 3, none⟩ = some (.int .i64 q.2)) (go_keep) (fail)
  go_wp2_with (first
    | (go_at_call 22; (with_reducible refine (HN.out _ HLB.out).mono ?_); rintro e w1 ⟨rfl, hb⟩; have HB := Lib.hid hb; clear hb HN; dsimp only)
    | (go_at_call 23; (with_reducible refine (HBI.out _).mono ?_); rintro e w_ ⟨rfl, hw⟩; rw [hw]; clear hw w_; dsimp only))
  have HBD := Lib.hid (HB.out.later (((Below.refl _ _).alloc (Nat.le_refl _) (.cells #[.int .i64 0, .int .i64 q.1, .int .i64 q.2, .int .i64 0, .string ⟨#[]⟩] 35)).drew))
  have HBW := Lib.hid (((Below.refl w1.heap.size w1).alloc (Nat.le_refl _) (.cells #[.int .i64 0, .int .i64 q.1, .int .i64 q.2, .int .i64 0, .string ⟨#[]⟩] 35)).drew)
  have HBLK : Hid ((w1.alloc (.cells #[.int .i64 0, .int .i64 q.1, .int .i64 q.2, .int .i64 0, .string ⟨#[]⟩] 35)).drew.heap[w1.heap.size]? = some (.cells #[.int .i64 0, .int .i64 q.1, .int .i64 q.2, .int .i64 0, .string ⟨#[]⟩] 35 (0, 0))) := heap_alloc_new w1 _
  obtain ⟨ao, cap, rfl, _⟩ := HB.out.ls.form
  obtain ⟨x0, x1, y0, y1, y4⟩ := HB.out.cells
  generalize hbx : w.heap.size = bx at *
  have HR0 := Lib.hid (HB.out.later (Below.refl _ _).drew)
  have HKP : Hid (∀ (jj : Nat) (qq : Pos) (W W1 w' : World), (LB N w0 p bx q src jj qq ts (.slice ao ts.length cap) W) → Below W.heap.size W W1 → W1.grownBy w' (Value.slice ao ts.length cap).ownBlock → w'.cell? ⟨p, 4, none⟩ = some (.slice ao ts.length cap) ∧ w'.cell? ⟨bx, 0, none⟩ = some (.int .i64 q.1) ∧ w'.cell? ⟨bx, 1, none⟩ = some (.int .i64 q.2)) := fun jj qq W W1 w' hl hW hg => by
    have h1 := hl.ls.sc.chg (((Chg.refl (Value.slice ao ts.length cap).ownBlock.toList W).thenBelow hW).grown hg (fun k hk => .inl (by simp [hk]))) (fun hm => (hl.ls.own p (by simpa using hm)).2 rfl)
    have h2 := box2 (hl.ls.kept hW hg (lt_of_block hl.box) hl.own hl.box)
    exact ⟨h1.c4, h2.1, h2.2⟩
  refine wp_region_lastL (S := fun w' => w'.cell? ⟨p, 4, none⟩ = some (.slice ao ts.length cap) ∧ w'.cell? ⟨bx, 0, none⟩ = some (.int .i64 q.1) ∧ w'.cell? ⟨bx, 1, none⟩ = some (.int .i64 q.2)) (by kernel_rfl) (by simp only [butLast]; rfl) (by simp only [lastOf]; rfl) (by kernel_rfl) (by kernel_rfl) ?_ (fun hHeld => ?_)
  focus exact ⟨(HR0.out).cells.2.2.2.2, (HR0.out).cells.1, (HR0.out).cells.2.1⟩
  try simp only [List.size_toArray, List.length_cons, List.length_nil]
  refine wpAnyH_take (i := 0) (v := ?_) rfl (by kernel_rfl) (by kernel_rfl) (by kernel_rfl) (fun _ _ _ h => h) (Or.inl ⟨by rfl, ?_⟩) (by assumption) ?_
  rotate_left
  focus (intro w hSw; (try dsimp only at hSw); go_simp; try with_reducible rfl)
  try simp only [Act.put, List.setIfInBounds_toArray, List.set_cons_zero, List.set_cons_succ, Nat.zero_add]
  refine wpAnyH_take (i := 1) (v := ?_) rfl (by kernel_rfl) (by kernel_rfl) (by kernel_rfl) (fun _ _ _ h => h) (Or.inl ⟨by rfl, ?_⟩) (by assumption) ?_
  rotate_left
  focus (intro w hSw; (try dsimp only at hSw); go_simp; try with_reducible rfl)
  try simp only [Act.put, List.setIfInBounds_toArray, List.set_cons_zero, List.set_cons_succ, Nat.zero_add]
  refine wpAnyH_take (i := 2) (v := ?_) rfl (by kernel_rfl) (by kernel_rfl) (by kernel_rfl) (fun _ _ _ h => h) (Or.inl ⟨by rfl, ?_⟩) (by assumption) ?_
  rotate_left
  focus (intro w hSw; (try dsimp only at hSw); go_simp; try with_reducible rfl)
  try simp only [Act.put, List.setIfInBounds_toArray, List.set_cons_zero, List.set_cons_succ, Nat.zero_add]
  refine wpAnyH_take (i := 3) (v := ?_) rfl (by kernel_rfl) (by kernel_rfl) (by kernel_rfl) (fun _ _ _ h => h) (Or.inl ⟨by rfl, ?_⟩) (by assumption) ?_
  rotate_left
  focus (intro w hSw; (try dsimp only at hSw); go_simp; try with_reducible rfl)
  try simp only [Act.put, List.setIfInBounds_toArray, List.set_cons_zero, List.set_cons_succ, Nat.zero_add]
  refine wpAnyH_take (i := 4) (v := ?_) rfl (by kernel_rfl) (by kernel_rfl) (by kernel_rfl) (fun _ _ _ h => h) (Or.inl ⟨by rfl, ?_⟩) (by assumption) ?_
  rotate_left
  focus (intro w hSw; (try dsimp only at hSw); go_simp; try with_reducible rfl)
  try simp only [Act.put, List.setIfInBounds_toArray, List.set_cons_zero, List.set_cons_succ, Nat.zero_add]
  refine wpAnyH_take (i := 5) (v := ?_) rfl (by kernel_rfl) (by kernel_rfl) (by kernel_rfl) (fun _ _ _ h => h) (Or.inl ⟨by rfl, ?_⟩) (by assumption) ?_
  rotate_left
  focus (intro w hSw; (try dsimp only at hSw); go_simp; try with_reducible rfl)
  try simp only [Act.put, List.setIfInBounds_toArray, List.set_cons_zero, List.set_cons_succ, Nat.zero_add]
  refine wpAnyH_take (i := 6) (v := ?_) rfl (by kernel_rfl) (by kernel_rfl) (by kernel_rfl) (fun _ _ _ h => h) (Or.inl ⟨by rfl, ?_⟩) (by assumption) ?_
  rotate_left
  focus (intro w hSw; (try dsimp only at hSw); go_simp; try with_reducible rfl)
  try simp only [Act.put, List.setIfInBounds_toArray, List.set_cons_zero, List.set_cons_succ, Nat.zero_add]
  refine wpAnyH_ready (rs := [7]) (by kernel_rfl) (by simp) ?_
  refine AllReadyH.cons rfl (fun K hK => ?_) AllReadyH.nil
  go_simp
  refine hK.out _ _ (⟨(HBD.out).cells.2.2.2.2, (HBD.out).cells.1, (HBD.out).cells.2.1⟩) (fun hHeld => ?_)
  clear hK K
  try simp only [Act.put, List.setIfInBounds_toArray, List.set_cons_zero, List.set_cons_succ, Nat.zero_add]
  refine wpAnyH_ready (rs := [8]) (by kernel_rfl) (by simp) ?_
  refine AllReadyH.cons rfl (fun K hK => ?_) AllReadyH.nil
  refine step_appt (t := ⟨0, q.1, q.2, 0, []⟩) (by rfl) _ _ (by rfl) (by rfl) HBD.out.ls.row (by rfl) ⟨_, HBLK.out⟩ (by have := HTS.out; have := HSZ.out; have := HLT.out; omega) ?_
  intro g40 cap40 w40 hr40 hg40 hl40
  have DN := Lib.hid (HB.out.ls.pushed HBW.out hr40 hg40 hl40)
  have hk40 := HKP.out _ _ _ _ _ HB.out HBW.out hg40
  have hf40 : w40.frozen? ⟨p, 4, none⟩ = false := by
    have h1 := (HB.out.ls.sc.chg (((Chg.refl (Value.slice ao ts.length cap).ownBlock.toList _).thenBelow HBW.out).grown hg40 (fun k hk => .inl (by simp [hk]))) (fun hm => (HB.out.ls.own p (by simpa using hm)).2 rfl))
    exact h1.fr 4
  clear hr40 hg40 hl40
  refine hK.out _ _ hk40 (fun hHeld => ?_)
  clear hK K
  try simp only [Act.put, List.setIfInBounds_toArray, List.set_cons_zero, List.set_cons_succ, Nat.zero_add]
  refine wpAnyH_take (i := 9) (v := ?_) rfl (by kernel_rfl) (by kernel_rfl) (by kernel_rfl) (fun _ _ _ h => h) (Or.inl ⟨by rfl, ?_⟩) (by assumption) ?_
  rotate_left
  focus (intro w hSw; (try dsimp only at hSw); go_simp; try with_reducible rfl)
  try simp only [Act.put, List.setIfInBounds_toArray, List.set_cons_zero, List.set_cons_succ, Nat.zero_add]
  refine wpAnyH_take (i := 10) (v := ?_) rfl (by kernel_rfl) (by kernel_rfl) (by kernel_rfl) (fun _ _ _ h => h) (Or.inl ⟨by rfl, ?_⟩) (by assumption) ?_
  rotate_left
  focus (intro w hSw; (try dsimp only at hSw); go_simp; try with_reducible rfl)
  try simp only [Act.put, List.setIfInBounds_toArray, List.set_cons_zero, List.set_cons_succ, Nat.zero_add]
  refine wpAnyH_done (by kernel_rfl) ?_ _
  show Oper.wp _ _ _ _ _ _
  go_simp
  go_wp2
  go_end0
  exact ⟨rfl, i + 1, _, by have := HLT.out; omega, HDR.out, HQ.out.adv 40, DN.out⟩
set_option maxRecDepth 100000 in
set_option maxHeartbeats 8000000 in
theorem step_close (N : Nat) (w0 w : World) (p i : Nat) (src : ByteArray) (q : Pos) (ts : List Tok) (vo : Value) (h : LS N w0 p src i q ts vo w) (hs : src.size ≤ 100000) (hq : PosOk i q) (c : UInt8) (r : List UInt8) (hcr : src.data.toList.drop i = c :: r)
    (hts : ts.length ≤ i) (hF : FTab w0) (hE : ErrVar w0) (hN : w0.heap.size ≤ N) (hc0 : c = 41) :
    Calls Tryz.prog 14 #[.pointer (some ⟨p, 0, none⟩)] w (StepEnd N w0 p src ts (Lx.stepT c r q)) := by
  have c1 := h.sc.c1
  have c2 := h.sc.c2
  have c3 := h.sc.c3
  have HLB := Lib.hid (LB.start h)
  have hLEN : src.data.toList.length = src.size := (Lib.size_eq src).symm
  have hlt : i < src.size := by
    have := congrArg List.length hcr
    rw [List.length_drop, hLEN, List.length_cons] at this
    omega
  have hrl : r.length + i + 1 = src.size := by
    have := congrArg List.length hcr
    rw [List.length_drop, hLEN, List.length_cons] at this
    omega
  have hdr : src.data.toList.drop (i + 1) = r := by rw [← List.drop_drop, hcr]; rfl
  have hc : src[i]'hlt = c := by
    have := Lib.getD_at src i hlt
    have h2 : src.data.toList[i]? = some c := by
      have h3 : (src.data.toList.drop i)[0]? = some c := by rw [hcr]; rfl
      rwa [List.getElem?_drop] at h3
    rw [List.getD_eq_getElem?_getD, h2] at this
    exact this
  obtain ⟨hq1, hq2⟩ := hq.le (by omega)
  have HN : Hid (∀ W, LB N w0 p w.heap.size q src i q ts vo W → Calls Tryz.prog 22 #[.pointer (some ⟨p, 0, none⟩)] W fun e w' => e = .returned (.int .u8 c.toNat) ∧ LB N w0 p w.heap.size q src (i + 1) (adv q c) ts vo w') := fun W hW =>
    (next_any W p i src q vo hW.ls.sc hlt c hc (by omega) (by omega) (by omega)).mono fun e w' ⟨he, h3, h4⟩ => ⟨he, hW.next h3 h4⟩
  have HQ := Lib.hid hq
  have HTS := Lib.hid hts
  have HSZ := Lib.hid hs
  have HFT := Lib.hid hF
  have HEV := Lib.hid hE
  have HNN := Lib.hid hN
  have HDR := Lib.hid hdr
  have HRL := Lib.hid hrl
  have HLT := Lib.hid hlt
  have HLEN := Lib.hid hLEN
  have HBI := Lib.hid (fun W => blank_any c W)
  have hbi := blank_iff c
  generalize Lib.indexByte [32, 9, 10] c = bi at HBI hbi
  subst hc0
  have hnb : isBl 41 = false := rfl
  have ec : (((41 : UInt8).toNat : Nat) : Int) = 41 := rfl
  rw [ec] at HN HBI
  have hst : Lx.stepT 41 r q = .ok (r, adv q 41, [⟨1, q.1, q.2, 0, []⟩]) := rfl
  rw [hst]
  have nb : ¬ 0 ≤ bi := fun h => by rw [hbi.1 h] at hnb; cases hnb
  have db : decide (0 ≤ bi) = false := decide_eq_false nb
  have e1 : ((41 : Int) == 59) = false := rfl
  have e2 : ((41 : Int) == 40) = false := rfl
  clear hst hnb hbi
  clear h hLEN hlt hrl hdr hc hq1 hq2 hq hts hs hF hE hN hcr
  go_enter Tryz.func14, Tryz.ntmps14
  go_wp2
  go_region_held3 (fun w' => w'.cell? ⟨p, 1, none⟩ = some (.int .i64 i) ∧ w'.cell? ⟨p, 2, none⟩ = some (.int .i64 q.1) ∧ w'.cell? ⟨p, 3, none⟩ = some (.int .i64 q.2)) (go_keep) (fail)
  go_wp2_with (first
    | (go_at_call 22; (with_reducible refine (HN.out _ HLB.out).mono ?_); rintro e w1 ⟨rfl, hb⟩; have HB := Lib.hid hb; clear hb HN; dsimp only)
    | (go_at_call 23; (with_reducible refine (HBI.out _).mono ?_); rintro e w_ ⟨rfl, hw⟩; rw [hw]; clear hw w_; dsimp only))
  have HBD := Lib.hid (HB.out.later (((Below.refl _ _).alloc (Nat.le_refl _) (.cells #[.int .i64 1, .int .i64 q.1, .int .i64 q.2, .int .i64 0, .string ⟨#[]⟩] 35)).drew))
  have HBW := Lib.hid (((Below.refl w1.heap.size w1).alloc (Nat.le_refl _) (.cells #[.int .i64 1, .int .i64 q.1, .int .i64 q.2, .int .i64 0, .string ⟨#[]⟩] 35)).drew)
  have HBLK : Hid ((w1.alloc (.cells #[.int .i64 1, .int .i64 q.1, .int .i64 q.2, .int .i64 0, .string ⟨#[]⟩] 35)).drew.heap[w1.heap.size]? = some (.cells #[.int .i64 1, .int .i64 q.1, .int .i64 q.2, .int .i64 0, .string ⟨#[]⟩] 35 (0, 0))) := heap_alloc_new w1 _
  obtain ⟨ao, cap, rfl, _⟩ := HB.out.ls.form
  obtain ⟨x0, x1, y0, y1, y4⟩ := HB.out.cells
  generalize hbx : w.heap.size = bx at *
  have HR0 := Lib.hid (HB.out.later (Below.refl _ _).drew)
  have HKP : Hid (∀ (jj : Nat) (qq : Pos) (W W1 w' : World), (LB N w0 p bx q src jj qq ts (.slice ao ts.length cap) W) → Below W.heap.size W W1 → W1.grownBy w' (Value.slice ao ts.length cap).ownBlock → w'.cell? ⟨p, 4, none⟩ = some (.slice ao ts.length cap) ∧ w'.cell? ⟨bx, 0, none⟩ = some (.int .i64 q.1) ∧ w'.cell? ⟨bx, 1, none⟩ = some (.int .i64 q.2)) := fun jj qq W W1 w' hl hW hg => by
    have h1 := hl.ls.sc.chg (((Chg.refl (Value.slice ao ts.length cap).ownBlock.toList W).thenBelow hW).grown hg (fun k hk => .inl (by simp [hk]))) (fun hm => (hl.ls.own p (by simpa using hm)).2 rfl)
    have h2 := box2 (hl.ls.kept hW hg (lt_of_block hl.box) hl.own hl.box)
    exact ⟨h1.c4, h2.1, h2.2⟩
  refine wp_region_lastL (S := fun w' => w'.cell? ⟨p, 4, none⟩ = some (.slice ao ts.length cap) ∧ w'.cell? ⟨bx, 0, none⟩ = some (.int .i64 q.1) ∧ w'.cell? ⟨bx, 1, none⟩ = some (.int .i64 q.2)) (by kernel_rfl) (by simp only [butLast]; rfl) (by simp only [lastOf]; rfl) (by kernel_rfl) (by kernel_rfl) ?_ (fun hHeld => ?_)
  focus exact ⟨(HR0.out).cells.2.2.2.2, (HR0.out).cells.1, (HR0.out).cells.2.1⟩
  try simp only [List.size_toArray, List.length_cons, List.length_nil]
  refine wpAnyH_take (i := 0) (v := ?_) rfl (by kernel_rfl) (by kernel_rfl) (by kernel_rfl) (fun _ _ _ h => h) (Or.inl ⟨by rfl, ?_⟩) (by assumption) ?_
  rotate_left
  focus (intro w hSw; (try dsimp only at hSw); go_simp; try with_reducible rfl)
  try simp only [Act.put, List.setIfInBounds_toArray, List.set_cons_zero, List.set_cons_succ, Nat.zero_add]
  refine wpAnyH_take (i := 1) (v := ?_) rfl (by kernel_rfl) (by kernel_rfl) (by kernel_rfl) (fun _ _ _ h => h) (Or.inl ⟨by rfl, ?_⟩) (by assumption) ?_
  rotate_left
  focus (intro w hSw; (try dsimp only at hSw); go_simp; try with_reducible rfl)
  try simp only [Act.put, List.setIfInBounds_toArray, List.set_cons_zero, List.set_cons_succ, Nat.zero_add]
  refine wpAnyH_take (i := 2) (v := ?_) rfl (by kernel_rfl) (by kernel_rfl) (by kernel_rfl) (fun _ _ _ h => h) (Or.inl ⟨by rfl, ?_⟩) (by assumption) ?_
  rotate_left
  focus (intro w hSw; (try dsimp only at hSw); go_simp; try with_reducible rfl)
  try simp only [Act.put, List.setIfInBounds_toArray, List.set_cons_zero, List.set_cons_succ, Nat.zero_add]
  refine wpAnyH_take (i := 3) (v := ?_) rfl (by kernel_rfl) (by kernel_rfl) (by kernel_rfl) (fun _ _ _ h => h) (Or.inl ⟨by rfl, ?_⟩) (by assumption) ?_
  rotate_left
  focus (intro w hSw; (try dsimp only at hSw); go_simp; try with_reducible rfl)
  try simp only [Act.put, List.setIfInBounds_toArray, List.set_cons_zero, List.set_cons_succ, Nat.zero_add]
  refine wpAnyH_take (i := 4) (v := ?_) rfl (by kernel_rfl) (by kernel_rfl) (by kernel_rfl) (fun _ _ _ h => h) (Or.inl ⟨by rfl, ?_⟩) (by assumption) ?_
  rotate_left
  focus (intro w hSw; (try dsimp only at hSw); go_simp; try with_reducible rfl)
  try simp only [Act.put, List.setIfInBounds_toArray, List.set_cons_zero, List.set_cons_succ, Nat.zero_add]
  refine wpAnyH_take (i := 5) (v := ?_) rfl (by kernel_rfl) (by kernel_rfl) (by kernel_rfl) (fun _ _ _ h => h) (Or.inl ⟨by rfl, ?_⟩) (by assumption) ?_
  rotate_left
  focus (intro w hSw; (try dsimp only at hSw); go_simp; try with_reducible rfl)
  try simp only [Act.put, List.setIfInBounds_toArray, List.set_cons_zero, List.set_cons_succ, Nat.zero_add]
  refine wpAnyH_take (i := 6) (v := ?_) rfl (by kernel_rfl) (by kernel_rfl) (by kernel_rfl) (fun _ _ _ h => h) (Or.inl ⟨by rfl, ?_⟩) (by assumption) ?_
  rotate_left
  focus (intro w hSw; (try dsimp only at hSw); go_simp; try with_reducible rfl)
  try simp only [Act.put, List.setIfInBounds_toArray, List.set_cons_zero, List.set_cons_succ, Nat.zero_add]
  refine wpAnyH_ready (rs := [7]) (by kernel_rfl) (by simp) ?_
  refine AllReadyH.cons rfl (fun K hK => ?_) AllReadyH.nil
  go_simp
  refine hK.out _ _ (⟨(HBD.out).cells.2.2.2.2, (HBD.out).cells.1, (HBD.out).cells.2.1⟩) (fun hHeld => ?_)
  clear hK K
  try simp only [Act.put, List.setIfInBounds_toArray, List.set_cons_zero, List.set_cons_succ, Nat.zero_add]
  refine wpAnyH_ready (rs := [8]) (by kernel_rfl) (by simp) ?_
  refine AllReadyH.cons rfl (fun K hK => ?_) AllReadyH.nil
  refine step_appt (t := ⟨1, q.1, q.2, 0, []⟩) (by rfl) _ _ (by rfl) (by rfl) HBD.out.ls.row (by rfl) ⟨_, HBLK.out⟩ (by have := HTS.out; have := HSZ.out; have := HLT.out; omega) ?_
  intro g40 cap40 w40 hr40 hg40 hl40
  have DN := Lib.hid (HB.out.ls.pushed HBW.out hr40 hg40 hl40)
  have hk40 := HKP.out _ _ _ _ _ HB.out HBW.out hg40
  have hf40 : w40.frozen? ⟨p, 4, none⟩ = false := by
    have h1 := (HB.out.ls.sc.chg (((Chg.refl (Value.slice ao ts.length cap).ownBlock.toList _).thenBelow HBW.out).grown hg40 (fun k hk => .inl (by simp [hk]))) (fun hm => (HB.out.ls.own p (by simpa using hm)).2 rfl))
    exact h1.fr 4
  clear hr40 hg40 hl40
  refine hK.out _ _ hk40 (fun hHeld => ?_)
  clear hK K
  try simp only [Act.put, List.setIfInBounds_toArray, List.set_cons_zero, List.set_cons_succ, Nat.zero_add]
  refine wpAnyH_take (i := 9) (v := ?_) rfl (by kernel_rfl) (by kernel_rfl) (by kernel_rfl) (fun _ _ _ h => h) (Or.inl ⟨by rfl, ?_⟩) (by assumption) ?_
  rotate_left
  focus (intro w hSw; (try dsimp only at hSw); go_simp; try with_reducible rfl)
  try simp only [Act.put, List.setIfInBounds_toArray, List.set_cons_zero, List.set_cons_succ, Nat.zero_add]
  refine wpAnyH_take (i := 10) (v := ?_) rfl (by kernel_rfl) (by kernel_rfl) (by kernel_rfl) (fun _ _ _ h => h) (Or.inl ⟨by rfl, ?_⟩) (by assumption) ?_
  rotate_left
  focus (intro w hSw; (try dsimp only at hSw); go_simp; try with_reducible rfl)
  try simp only [Act.put, List.setIfInBounds_toArray, List.set_cons_zero, List.set_cons_succ, Nat.zero_add]
  refine wpAnyH_done (by kernel_rfl) ?_ _
  show Oper.wp _ _ _ _ _ _
  go_simp
  go_wp2
  go_end0
  exact ⟨rfl, i + 1, _, by have := HLT.out; omega, HDR.out, HQ.out.adv 41, DN.out⟩
set_option maxRecDepth 100000 in
set_option maxHeartbeats 8000000 in
theorem step_comment (N : Nat) (w0 w : World) (p i : Nat) (src : ByteArray) (q : Pos) (ts : List Tok) (vo : Value) (h : LS N w0 p src i q ts vo w) (hs : src.size ≤ 100000) (hq : PosOk i q) (c : UInt8) (r : List UInt8) (hcr : src.data.toList.drop i = c :: r)
    (hts : ts.length ≤ i) (hF : FTab w0) (hE : ErrVar w0) (hN : w0.heap.size ≤ N) (hc0 : c = 59) :
    Calls Tryz.prog 14 #[.pointer (some ⟨p, 0, none⟩)] w (StepEnd N w0 p src ts (Lx.stepT c r q)) := by
  have c1 := h.sc.c1
  have c2 := h.sc.c2
  have c3 := h.sc.c3
  have HLB := Lib.hid (LB.start h)
  have hLEN : src.data.toList.length = src.size := (Lib.size_eq src).symm
  have hlt : i < src.size := by
    have := congrArg List.length hcr
    rw [List.length_drop, hLEN, List.length_cons] at this
    omega
  have hrl : r.length + i + 1 = src.size := by
    have := congrArg List.length hcr
    rw [List.length_drop, hLEN, List.length_cons] at this
    omega
  have hdr : src.data.toList.drop (i + 1) = r := by rw [← List.drop_drop, hcr]; rfl
  have hc : src[i]'hlt = c := by
    have := Lib.getD_at src i hlt
    have h2 : src.data.toList[i]? = some c := by
      have h3 : (src.data.toList.drop i)[0]? = some c := by rw [hcr]; rfl
      rwa [List.getElem?_drop] at h3
    rw [List.getD_eq_getElem?_getD, h2] at this
    exact this
  obtain ⟨hq1, hq2⟩ := hq.le (by omega)
  have HN : Hid (∀ W, LB N w0 p w.heap.size q src i q ts vo W → Calls Tryz.prog 22 #[.pointer (some ⟨p, 0, none⟩)] W fun e w' => e = .returned (.int .u8 c.toNat) ∧ LB N w0 p w.heap.size q src (i + 1) (adv q c) ts vo w') := fun W hW =>
    (next_any W p i src q vo hW.ls.sc hlt c hc (by omega) (by omega) (by omega)).mono fun e w' ⟨he, h3, h4⟩ => ⟨he, hW.next h3 h4⟩
  have HQ := Lib.hid hq
  have HTS := Lib.hid hts
  have HSZ := Lib.hid hs
  have HFT := Lib.hid hF
  have HEV := Lib.hid hE
  have HNN := Lib.hid hN
  have HDR := Lib.hid hdr
  have HRL := Lib.hid hrl
  have HLT := Lib.hid hlt
  have HLEN := Lib.hid hLEN
  have HBI := Lib.hid (fun W => blank_any c W)
  have hbi := blank_iff c
  generalize Lib.indexByte [32, 9, 10] c = bi at HBI hbi
  subst hc0
  have hnb : isBl 59 = false := rfl
  have ec : (((59 : UInt8).toNat : Nat) : Int) = 59 := rfl
  rw [ec] at HN HBI
  have hst : Lx.stepT 59 r q = .ok (r.dropWhile (· != 10), advs q (59 :: r.takeWhile (· != 10)), []) := rfl
  rw [hst]
  have nb : ¬ 0 ≤ bi := fun h => by rw [hbi.1 h] at hnb; cases hnb
  have db : decide (0 ≤ bi) = false := decide_eq_false nb
  have HSTART : Hid (∀ W, LB N w0 p w.heap.size q src (i + 1) (adv q 59) ts vo W → WLoop N w0 p w.heap.size q src ts vo (· != 10) i (r.dropWhile (· != 10)) (59 :: r.takeWhile (· != 10)) (advs q (59 :: r.takeWhile (· != 10))) (src.size - (i + 1)) W) := fun W hW =>
    ⟨i + 1, adv q 59, by omega, by omega, hq.adv 59, by rw [hdr], by rw [hdr]; rfl, by rw [hdr, hcr, show i + 1 - i = 1 by omega]; rfl, hW⟩
  generalize r.dropWhile (· != 10) = rf at HSTART ⊢
  generalize (59 :: r.takeWhile (· != 10)) = wf at HSTART ⊢
  generalize advs q wf = qf at HSTART ⊢
  clear hst hnb hbi
  clear h hLEN hlt hrl hdr hc hq1 hq2 hq hts hs hF hE hN hcr
  go_enter Tryz.func14, Tryz.ntmps14
  go_wp2
  go_region_held3 (fun w' => w'.cell? ⟨p, 1, none⟩ = some (.int .i64 i) ∧ w'.cell? ⟨p, 2, none⟩ = some (.int .i64 q.1) ∧ w'.cell? ⟨p, 3, none⟩ = some (.int .i64 q.2)) (go_keep) (fail)
  go_wp2_with (first
    | (go_at_call 22; (with_reducible refine (HN.out _ HLB.out).mono ?_); rintro e w1 ⟨rfl, hb⟩; have HB := Lib.hid hb; clear hb HN; dsimp only)
    | (go_at_call 23; (with_reducible refine (HBI.out _).mono ?_); rintro e w_ ⟨rfl, hw⟩; rw [hw]; clear hw w_; dsimp only))
  replace HSTART := Lib.hid (HSTART.out _ HB.out)
  go_loopg [] (src.size - (i + 1)) (fun gk wr => WLoop N w0 p w.heap.size q src ts vo (· != 10) i rf wf qf gk wr)
  case atStart => exact HSTART.out
  case round =>
    obtain ⟨j, q', hij, hjg, hq', h1, h2, h3, hlb⟩ := hrel
    have HLB := Lib.hid hlb
    obtain ⟨x0, x1, y0, y1, y4⟩ := hlb.cells
    have HM := Lib.hid (fun n => more_q wr p j n src q' vo hlb.ls.sc)
    have HQJ := Lib.hid hq'
    have H1 := Lib.hid h1
    have H2 := Lib.hid h2
    have H3 := Lib.hid h3
    have HIJ := Lib.hid hij
    have HJG := Lib.hid hjg
    by_cases hlt : j < src.size
    · obtain ⟨d, r', hdr'⟩ : ∃ d r', src.data.toList.drop j = d :: r' := by
        cases hd : src.data.toList.drop j with
        | nil =>
          have := congrArg List.length hd
          rw [List.length_drop, HLEN.out] at this
          simp at this
          omega
        | cons d r' => exact ⟨d, r', rfl⟩
      have hdn : src.data.toList.drop (j + 1) = r' := by rw [← List.drop_drop, hdr']; rfl
      have hd : src[j]'hlt = d := by
        have := Lib.getD_at src j hlt
        have h5 : src.data.toList[j]? = some d := by
          have h6 : (src.data.toList.drop j)[0]? = some d := by rw [hdr']; rfl
          rwa [List.getElem?_drop] at h6
        rw [List.getD_eq_getElem?_getD, h5] at this
        exact this
      have hj8 : j ≤ 100000 := by have := HSZ.out; omega
      obtain ⟨hq1, hq2⟩ := hq'.le (by omega)
      have HN : Hid (∀ W, LB N w0 p w.heap.size q src j q' ts vo W → Calls Tryz.prog 22 #[.pointer (some ⟨p, 0, none⟩)] W fun e w' => e = .returned (.int .u8 d.toNat) ∧ LB N w0 p w.heap.size q src (j + 1) (adv q' d) ts vo w') := fun W hW =>
        (next_any W p j src q' vo hW.ls.sc hlt d hd (by have := HSZ.out; omega) (by omega) (by omega)).mono fun e w' ⟨he, h3, h4⟩ => ⟨he, hW.next h3 h4⟩
      have HDR' := Lib.hid hdr'
      have HDN := Lib.hid hdn
      have k0 : (j : Int) < (src.size : Int) := by omega
      have k1 : (0 : Int) ≤ (j : Int) := by omega
      have d1 : decide (j < src.size) = true := decide_eq_true hlt
      rw [d1] at HM
      clear hij hjg hq' h1 h2 h3 hlb d1 hdr' hdn hq1 hq2
      cases hp : (· != 10) d with
      | true =>
        have q9 : ((d.toNat : Int) != 10) = true := by rw [bne, ne_lit (by simpa using hp) (by rfl)]; rfl
        have HP := Lib.hid hp
        clear hp
        go_wp2_with (fail)
        go_quiet ((first | (go_at_call 13; exact HM.out _)))
        go_wp2_with (go_at_call 22; (with_reducible refine (HN.out _ (HLB.out.later (below_drewN (Below.refl _ _) _))).mono ?_); rintro e w2 ⟨rfl, hb⟩; have HB2 := Lib.hid hb; clear hb HN; dsimp only)
        go_roundg (gk - 1)
        case measure => have := HJG.out; omega
        case rel =>
          have hp := HP.out
          refine ⟨j + 1, adv q' d, by have := HIJ.out; omega, by have := HJG.out; omega, HQJ.out.adv d, ?_, ?_, ?_, HB2.out⟩
          · rw [HDN.out]
            have h := H1.out
            rw [HDR'.out, List.dropWhile_cons, if_pos hp] at h
            exact h
          · rw [HDN.out]
            have h := H2.out
            rw [HDR'.out, List.takeWhile_cons, if_pos hp] at h
            exact h
          · rw [HDN.out]
            have h := H3.out
            rw [HDR'.out, List.takeWhile_cons, if_pos hp] at h
            rw [take_more HIJ.out HDR'.out]
            simpa using h
      | false =>
        have q8 : d = 10 := by simpa using hp
        subst q8
        have HP := Lib.hid hp
        clear hp
        go_wp2_with (fail)
        go_quiet ((first | (go_at_call 13; exact HM.out _)))
        have HE1 : Hid (src.data.toList.drop j = rf) := by
          have h := H1.out
          rw [HDR'.out, List.dropWhile_cons, if_neg (by rw [HP.out]; simp)] at h
          exact HDR'.out.trans h
        have HE2 : Hid (q' = qf) := by
          have h := H2.out
          rw [HDR'.out, List.takeWhile_cons, if_neg (by rw [HP.out]; simp)] at h
          exact h
        have HE3 : Hid ((src.data.toList.drop i).take (j - i) = wf) := by
          have h := H3.out
          rw [HDR'.out, List.takeWhile_cons, if_neg (by rw [HP.out]; simp), List.append_nil] at h
          exact h
        clear H1 H2 H3 HDR' HDN HN
        go_wp2
        go_end0
        refine ⟨rfl, j, vo, by have := HJG.out; omega, HE1.out, ?_, ?_⟩
        · rw [← HE2.out]; exact HQJ.out
        · rw [List.append_nil, ← HE2.out]; exact (HLB.out.later (below_drewN (Below.refl _ _) _)).ls
    · have d1 : decide (j < src.size) = false := decide_eq_false hlt
      rw [d1] at HM
      have hnl : src.data.toList.drop j = [] := List.drop_eq_nil_of_le (by rw [HLEN.out]; omega)
      have HE1 : Hid (src.data.toList.drop j = rf) := by rw [hnl] at h1 ⊢; exact h1
      have HE2 : Hid (q' = qf) := by rw [hnl] at h2; exact h2
      have HE3 : Hid ((src.data.toList.drop i).take (j - i) = wf) := by rw [hnl] at h3; rw [← h3]; exact (List.append_nil _).symm
      clear hij hjg hq' h1 h2 h3 hlb d1 hlt hnl H1 H2 H3
      go_wp2_with (fail)
      go_quiet ((first | (go_at_call 13; exact HM.out _)))
      go_wp2
      go_end0
      refine ⟨rfl, j, vo, by have := HJG.out; omega, HE1.out, ?_, ?_⟩
      · rw [← HE2.out]; exact HQJ.out
      · rw [List.append_nil, ← HE2.out]; exact (HLB.out.later (below_drewN (Below.refl _ _) _)).ls
set_option maxRecDepth 100000 in
set_option maxHeartbeats 8000000 in
theorem step_str (N : Nat) (w0 w : World) (p i : Nat) (src : ByteArray) (q : Pos) (ts : List Tok) (vo : Value) (h : LS N w0 p src i q ts vo w) (hs : src.size ≤ 100000) (hq : PosOk i q) (c : UInt8) (r : List UInt8) (hcr : src.data.toList.drop i = c :: r)
    (hts : ts.length ≤ i) (hF : FTab w0) (hE : ErrVar w0) (hN : w0.heap.size ≤ N) (hc0 : c = 34) :
    Calls Tryz.prog 14 #[.pointer (some ⟨p, 0, none⟩)] w (StepEnd N w0 p src ts (Lx.stepT c r q)) := by
  have c1 := h.sc.c1
  have c2 := h.sc.c2
  have c3 := h.sc.c3
  have HLB := Lib.hid (LB.start h)
  have hLEN : src.data.toList.length = src.size := (Lib.size_eq src).symm
  have hlt : i < src.size := by
    have := congrArg List.length hcr
    rw [List.length_drop, hLEN, List.length_cons] at this
    omega
  have hrl : r.length + i + 1 = src.size := by
    have := congrArg List.length hcr
    rw [List.length_drop, hLEN, List.length_cons] at this
    omega
  have hdr : src.data.toList.drop (i + 1) = r := by rw [← List.drop_drop, hcr]; rfl
  have hc : src[i]'hlt = c := by
    have := Lib.getD_at src i hlt
    have h2 : src.data.toList[i]? = some c := by
      have h3 : (src.data.toList.drop i)[0]? = some c := by rw [hcr]; rfl
      rwa [List.getElem?_drop] at h3
    rw [List.getD_eq_getElem?_getD, h2] at this
    exact this
  obtain ⟨hq1, hq2⟩ := hq.le (by omega)
  have HN : Hid (∀ W, LB N w0 p w.heap.size q src i q ts vo W → Calls Tryz.prog 22 #[.pointer (some ⟨p, 0, none⟩)] W fun e w' => e = .returned (.int .u8 c.toNat) ∧ LB N w0 p w.heap.size q src (i + 1) (adv q c) ts vo w') := fun W hW =>
    (next_any W p i src q vo hW.ls.sc hlt c hc (by omega) (by omega) (by omega)).mono fun e w' ⟨he, h3, h4⟩ => ⟨he, hW.next h3 h4⟩
  have HQ := Lib.hid hq
  have HTS := Lib.hid hts
  have HSZ := Lib.hid hs
  have HFT := Lib.hid hF
  have HEV := Lib.hid hE
  have HNN := Lib.hid hN
  have HDR := Lib.hid hdr
  have HRL := Lib.hid hrl
  have HLT := Lib.hid hlt
  have HLEN := Lib.hid hLEN
  have HBI := Lib.hid (fun W => blank_any c W)
  have hbi := blank_iff c
  generalize Lib.indexByte [32, 9, 10] c = bi at HBI hbi
  subst hc0
  have hnb : isBl 34 = false := rfl
  have ec : (((34 : UInt8).toNat : Nat) : Int) = 34 := rfl
  rw [ec] at HN HBI
  have hst : Lx.stepT 34 r q = match strT q r.length r (adv q 34) [] with
    | .error e => .error e
    | .ok (b, r', p') => .ok (r', p', [⟨4, q.1, q.2, 0, b⟩]) := rfl
  rw [hst]
  have e1 : ((34 : Int) == 59) = false := rfl
  have e2 : ((34 : Int) == 40) = false := rfl
  have e3 : ((34 : Int) == 41) = false := rfl
  have nb : ¬ 0 ≤ bi := fun h => by rw [hbi.1 h] at hnb; cases hnb
  have db : decide (0 ≤ bi) = false := decide_eq_false nb
  have HSTR : Hid (∀ W, LB N w0 p w.heap.size q src (i + 1) (adv q 34) ts vo W → Calls Tryz.prog 24 #[.pointer (some ⟨p, 0, none⟩), posV q] W (StrEnd W p src q vo (strT q r.length r (adv q 34) []))) := fun W hW => by
    have h := str_any W p (i + 1) src (adv q 34) q vo hW.ls.sc (by omega) (by omega) (hq.adv 34)
    rw [hdr, show src.size - (i + 1) = r.length by omega] at h
    exact h
  clear hst hnb hbi
  cases hS : strT q r.length r (adv q 34) [] with
  | error x =>
    have HS2 : Hid (∀ W, LB N w0 p w.heap.size q src (i + 1) (adv q 34) ts vo W → Calls Tryz.prog 24 #[.pointer (some ⟨p, 0, none⟩), .agg #[.int .i64 q.1, .int .i64 q.2]] W fun e w' => e = .panicked [{ v := .iface 46 (.agg #[.int .i64 x.1, .int .i64 x.2]), recovered := false }] ∧ Below N w0 w') := fun W hW =>
      (HSTR.out W hW).mono fun e w' h => by
        rw [hS] at h
        exact ⟨h.2, hW.ls.below.trans (h.1.below (Nat.le_trans hW.ls.hp (Nat.le_of_lt hW.ls.sc.lt)) (fun k hk => by simp at hk; subst hk; exact hW.ls.hp))⟩
    clear hS HSTR
    clear h hLEN hlt hrl hdr hc hq1 hq2 hq hts hs hF hE hN hcr
    go_enter Tryz.func14, Tryz.ntmps14
    go_wp2
    go_region_held3 (fun w' => w'.cell? ⟨p, 1, none⟩ = some (.int .i64 i) ∧ w'.cell? ⟨p, 2, none⟩ = some (.int .i64 q.1) ∧ w'.cell? ⟨p, 3, none⟩ = some (.int .i64 q.2)) (go_keep) (fail)
    go_wp2_with (first
      | (go_at_call 22; (with_reducible refine (HN.out _ HLB.out).mono ?_); rintro e w1 ⟨rfl, hb⟩; have HB := Lib.hid hb; clear hb HN; dsimp only)
      | (go_at_call 23; (with_reducible refine (HBI.out _).mono ?_); rintro e w_ ⟨rfl, hw⟩; rw [hw]; clear hw w_; dsimp only))
    obtain ⟨ao, cap, rfl, _⟩ := HB.out.ls.form
    obtain ⟨x0, x1, y0, y1, y4⟩ := HB.out.cells
    generalize hbx : w.heap.size = bx at *
    have HR0 := Lib.hid (HB.out.later (Below.refl _ _).drew)
    have HKP : Hid (∀ (jj : Nat) (qq : Pos) (W W1 w' : World), (LB N w0 p bx q src jj qq ts (.slice ao ts.length cap) W) → Below W.heap.size W W1 → W1.grownBy w' (Value.slice ao ts.length cap).ownBlock → w'.cell? ⟨p, 4, none⟩ = some (.slice ao ts.length cap) ∧ w'.cell? ⟨bx, 0, none⟩ = some (.int .i64 q.1) ∧ w'.cell? ⟨bx, 1, none⟩ = some (.int .i64 q.2)) := fun jj qq W W1 w' hl hW hg => by
      have h1 := hl.ls.sc.chg (((Chg.refl (Value.slice ao ts.length cap).ownBlock.toList W).thenBelow hW).grown hg (fun k hk => .inl (by simp [hk]))) (fun hm => (hl.ls.own p (by simpa using hm)).2 rfl)
      have h2 := box2 (hl.ls.kept hW hg (lt_of_block hl.box) hl.own hl.box)
      exact ⟨h1.c4, h2.1, h2.2⟩
    refine wp_region_lastL (S := fun w' => w'.cell? ⟨p, 4, none⟩ = some (.slice ao ts.length cap) ∧ w'.cell? ⟨bx, 0, none⟩ = some (.int .i64 q.1) ∧ w'.cell? ⟨bx, 1, none⟩ = some (.int .i64 q.2)) (by kernel_rfl) (by simp only [butLast]; rfl) (by simp only [lastOf]; rfl) (by kernel_rfl) (by kernel_rfl) ?_ (fun hHeld => ?_)
    focus exact ⟨(HR0.out).cells.2.2.2.2, (HR0.out).cells.1, (HR0.out).cells.2.1⟩
    try simp only [List.size_toArray, List.length_cons, List.length_nil]
    refine wpAnyH_take (i := 0) (v := ?_) rfl (by kernel_rfl) (by kernel_rfl) (by kernel_rfl) (fun _ _ _ h => h) (Or.inl ⟨by rfl, ?_⟩) (by assumption) ?_
    rotate_left
    focus (intro w hSw; (try dsimp only at hSw); go_simp; try with_reducible rfl)
    try simp only [Act.put, List.setIfInBounds_toArray, List.set_cons_zero, List.set_cons_succ, Nat.zero_add]
    refine wpAnyH_take (i := 1) (v := ?_) rfl (by kernel_rfl) (by kernel_rfl) (by kernel_rfl) (fun _ _ _ h => h) (Or.inl ⟨by rfl, ?_⟩) (by assumption) ?_
    rotate_left
    focus (intro w hSw; (try dsimp only at hSw); go_simp; try with_reducible rfl)
    try simp only [Act.put, List.setIfInBounds_toArray, List.set_cons_zero, List.set_cons_succ, Nat.zero_add]
    refine wpAnyH_take (i := 2) (v := ?_) rfl (by kernel_rfl) (by kernel_rfl) (by kernel_rfl) (fun _ _ _ h => h) (Or.inl ⟨by rfl, ?_⟩) (by assumption) ?_
    rotate_left
    focus (intro w hSw; (try dsimp only at hSw); go_simp; try with_reducible rfl)
    try simp only [Act.put, List.setIfInBounds_toArray, List.set_cons_zero, List.set_cons_succ, Nat.zero_add]
    refine wpAnyH_take (i := 3) (v := ?_) rfl (by kernel_rfl) (by kernel_rfl) (by kernel_rfl) (fun _ _ _ h => h) (Or.inl ⟨by rfl, ?_⟩) (by assumption) ?_
    rotate_left
    focus (intro w hSw; (try dsimp only at hSw); go_simp; try with_reducible rfl)
    try simp only [Act.put, List.setIfInBounds_toArray, List.set_cons_zero, List.set_cons_succ, Nat.zero_add]
    refine wpAnyH_take (i := 4) (v := ?_) rfl (by kernel_rfl) (by kernel_rfl) (by kernel_rfl) (fun _ _ _ h => h) (Or.inl ⟨by rfl, ?_⟩) (by assumption) ?_
    rotate_left
    focus (intro w hSw; (try dsimp only at hSw); go_simp; try with_reducible rfl)
    try simp only [Act.put, List.setIfInBounds_toArray, List.set_cons_zero, List.set_cons_succ, Nat.zero_add]
    refine wpAnyH_take (i := 5) (v := ?_) rfl (by kernel_rfl) (by kernel_rfl) (by kernel_rfl) (fun _ _ _ h => h) (Or.inl ⟨by rfl, ?_⟩) (by assumption) ?_
    rotate_left
    focus (intro w hSw; (try dsimp only at hSw); go_simp; try with_reducible rfl)
    try simp only [Act.put, List.setIfInBounds_toArray, List.set_cons_zero, List.set_cons_succ, Nat.zero_add]
    refine wpAnyH_take (i := 6) (v := ?_) rfl (by kernel_rfl) (by kernel_rfl) (by kernel_rfl) (fun _ _ _ h => h) (Or.inl ⟨by rfl, ?_⟩) (by assumption) ?_
    rotate_left
    focus (intro w hSw; (try dsimp only at hSw); go_simp; try with_reducible rfl)
    try simp only [Act.put, List.setIfInBounds_toArray, List.set_cons_zero, List.set_cons_succ, Nat.zero_add]
    refine wpAnyH_ready (rs := [7]) (by kernel_rfl) (by simp) ?_
    refine AllReadyH.cons rfl (fun K hK => ?_) AllReadyH.nil
    go_simp
    go_at_call 24
    refine (HS2.out _ HR0.out).mono ?_
    rintro e w20 ⟨rfl, hb20⟩
    dsimp only
    exact ⟨rfl, rfl, hb20⟩
  | ok x =>
    obtain ⟨b, r', q'⟩ := x
    have HS2 : Hid (∀ W, LB N w0 p w.heap.size q src (i + 1) (adv q 34) ts vo W → Calls Tryz.prog 24 #[.pointer (some ⟨p, 0, none⟩), .agg #[.int .i64 q.1, .int .i64 q.2]] W fun e w' => e = .returned (.agg #[.int .i64 4, .int .i64 q.1, .int .i64 q.2, .int .i64 0, .string (bytes b)]) ∧ ∃ i', i' ≤ src.size ∧ src.data.toList.drop i' = r' ∧ PosOk i' q' ∧ LB N w0 p w.heap.size q src i' q' ts vo w') := fun W hW =>
      (HSTR.out W hW).mono fun e w' h => by
        rw [hS] at h
        obtain ⟨h1, h2, i', h3, h4, h5, h6⟩ := h
        exact ⟨h2, i', h3, h4, h5, hW.next h6 h1⟩
    clear hS HSTR
    clear h hLEN hlt hrl hdr hc hq1 hq2 hq hts hs hF hE hN hcr
    go_enter Tryz.func14, Tryz.ntmps14
    go_wp2
    go_region_held3 (fun w' => w'.cell? ⟨p, 1, none⟩ = some (.int .i64 i) ∧ w'.cell? ⟨p, 2, none⟩ = some (.int .i64 q.1) ∧ w'.cell? ⟨p, 3, none⟩ = some (.int .i64 q.2)) (go_keep) (fail)
    go_wp2_with (first
      | (go_at_call 22; (with_reducible refine (HN.out _ HLB.out).mono ?_); rintro e w1 ⟨rfl, hb⟩; have HB := Lib.hid hb; clear hb HN; dsimp only)
      | (go_at_call 23; (with_reducible refine (HBI.out _).mono ?_); rintro e w_ ⟨rfl, hw⟩; rw [hw]; clear hw w_; dsimp only))
    obtain ⟨ao, cap, rfl, _⟩ := HB.out.ls.form
    obtain ⟨x0, x1, y0, y1, y4⟩ := HB.out.cells
    generalize hbx : w.heap.size = bx at *
    have HR0 := Lib.hid (HB.out.later (Below.refl _ _).drew)
    have HKP : Hid (∀ (jj : Nat) (qq : Pos) (W W1 w' : World), (LB N w0 p bx q src jj qq ts (.slice ao ts.length cap) W) → Below W.heap.size W W1 → W1.grownBy w' (Value.slice ao ts.length cap).ownBlock → w'.cell? ⟨p, 4, none⟩ = some (.slice ao ts.length cap) ∧ w'.cell? ⟨bx, 0, none⟩ = some (.int .i64 q.1) ∧ w'.cell? ⟨bx, 1, none⟩ = some (.int .i64 q.2)) := fun jj qq W W1 w' hl hW hg => by
      have h1 := hl.ls.sc.chg (((Chg.refl (Value.slice ao ts.length cap).ownBlock.toList W).thenBelow hW).grown hg (fun k hk => .inl (by simp [hk]))) (fun hm => (hl.ls.own p (by simpa using hm)).2 rfl)
      have h2 := box2 (hl.ls.kept hW hg (lt_of_block hl.box) hl.own hl.box)
      exact ⟨h1.c4, h2.1, h2.2⟩
    refine wp_region_lastL (S := fun w' => w'.cell? ⟨p, 4, none⟩ = some (.slice ao ts.length cap) ∧ w'.cell? ⟨bx, 0, none⟩ = some (.int .i64 q.1) ∧ w'.cell? ⟨bx, 1, none⟩ = some (.int .i64 q.2)) (by kernel_rfl) (by simp only [butLast]; rfl) (by simp only [lastOf]; rfl) (by kernel_rfl) (by kernel_rfl) ?_ (fun hHeld => ?_)
    focus exact ⟨(HR0.out).cells.2.2.2.2, (HR0.out).cells.1, (HR0.out).cells.2.1⟩
    try simp only [List.size_toArray, List.length_cons, List.length_nil]
    refine wpAnyH_take (i := 0) (v := ?_) rfl (by kernel_rfl) (by kernel_rfl) (by kernel_rfl) (fun _ _ _ h => h) (Or.inl ⟨by rfl, ?_⟩) (by assumption) ?_
    rotate_left
    focus (intro w hSw; (try dsimp only at hSw); go_simp; try with_reducible rfl)
    try simp only [Act.put, List.setIfInBounds_toArray, List.set_cons_zero, List.set_cons_succ, Nat.zero_add]
    refine wpAnyH_take (i := 1) (v := ?_) rfl (by kernel_rfl) (by kernel_rfl) (by kernel_rfl) (fun _ _ _ h => h) (Or.inl ⟨by rfl, ?_⟩) (by assumption) ?_
    rotate_left
    focus (intro w hSw; (try dsimp only at hSw); go_simp; try with_reducible rfl)
    try simp only [Act.put, List.setIfInBounds_toArray, List.set_cons_zero, List.set_cons_succ, Nat.zero_add]
    refine wpAnyH_take (i := 2) (v := ?_) rfl (by kernel_rfl) (by kernel_rfl) (by kernel_rfl) (fun _ _ _ h => h) (Or.inl ⟨by rfl, ?_⟩) (by assumption) ?_
    rotate_left
    focus (intro w hSw; (try dsimp only at hSw); go_simp; try with_reducible rfl)
    try simp only [Act.put, List.setIfInBounds_toArray, List.set_cons_zero, List.set_cons_succ, Nat.zero_add]
    refine wpAnyH_take (i := 3) (v := ?_) rfl (by kernel_rfl) (by kernel_rfl) (by kernel_rfl) (fun _ _ _ h => h) (Or.inl ⟨by rfl, ?_⟩) (by assumption) ?_
    rotate_left
    focus (intro w hSw; (try dsimp only at hSw); go_simp; try with_reducible rfl)
    try simp only [Act.put, List.setIfInBounds_toArray, List.set_cons_zero, List.set_cons_succ, Nat.zero_add]
    refine wpAnyH_take (i := 4) (v := ?_) rfl (by kernel_rfl) (by kernel_rfl) (by kernel_rfl) (fun _ _ _ h => h) (Or.inl ⟨by rfl, ?_⟩) (by assumption) ?_
    rotate_left
    focus (intro w hSw; (try dsimp only at hSw); go_simp; try with_reducible rfl)
    try simp only [Act.put, List.setIfInBounds_toArray, List.set_cons_zero, List.set_cons_succ, Nat.zero_add]
    refine wpAnyH_take (i := 5) (v := ?_) rfl (by kernel_rfl) (by kernel_rfl) (by kernel_rfl) (fun _ _ _ h => h) (Or.inl ⟨by rfl, ?_⟩) (by assumption) ?_
    rotate_left
    focus (intro w hSw; (try dsimp only at hSw); go_simp; try with_reducible rfl)
    try simp only [Act.put, List.setIfInBounds_toArray, List.set_cons_zero, List.set_cons_succ, Nat.zero_add]
    refine wpAnyH_take (i := 6) (v := ?_) rfl (by kernel_rfl) (by kernel_rfl) (by kernel_rfl) (fun _ _ _ h => h) (Or.inl ⟨by rfl, ?_⟩) (by assumption) ?_
    rotate_left
    focus (intro w hSw; (try dsimp only at hSw); go_simp; try with_reducible rfl)
    try simp only [Act.put, List.setIfInBounds_toArray, List.set_cons_zero, List.set_cons_succ, Nat.zero_add]
    refine wpAnyH_ready (rs := [7]) (by kernel_rfl) (by simp) ?_
    refine AllReadyH.cons rfl (fun K hK => ?_) AllReadyH.nil
    go_simp
    go_at_call 24
    refine (HS2.out _ HR0.out).mono ?_
    rintro e w20 ⟨rfl, i9, hi9, hd9, hp9, hb20⟩
    have HB20 := Lib.hid hb20
    have HI9 := Lib.hid hi9
    have HD9 := Lib.hid hd9
    have HP9 := Lib.hid hp9
    clear hi9 hd9 hp9 hb20
    dsimp only
    refine hK.out _ _ ⟨(HB20.out).cells.2.2.2.2, (HB20.out).cells.1, (HB20.out).cells.2.1⟩ (fun hHeld => ?_)
    clear hK K
    try simp only [Act.put, List.setIfInBounds_toArray, List.set_cons_zero, List.set_cons_succ, Nat.zero_add]
    refine wpAnyH_ready (rs := [8]) (by kernel_rfl) (by simp) ?_
    refine AllReadyH.cons rfl (fun K hK => ?_) AllReadyH.nil
    go_simp
    refine hK.out _ _ (⟨(HB20.out.later ((Below.refl _ _).alloc (Nat.le_refl _) _)).cells.2.2.2.2, (HB20.out.later ((Below.refl _ _).alloc (Nat.le_refl _) _)).cells.1, (HB20.out.later ((Below.refl _ _).alloc (Nat.le_refl _) _)).cells.2.1⟩) (fun hHeld => ?_)
    clear hK K
    try simp only [Act.put, List.setIfInBounds_toArray, List.set_cons_zero, List.set_cons_succ, Nat.zero_add]
    refine wpAnyH_ready (rs := [9]) (by kernel_rfl) (by simp) ?_
    refine AllReadyH.cons rfl (fun K hK => ?_) AllReadyH.nil
    refine step_appt (t := ⟨4, q.1, q.2, 0, b⟩) (by rfl) _ _ (by rfl) (by rfl) (HB20.out.later ((Below.refl _ _).alloc (Nat.le_refl _) _)).ls.row (by rfl) ⟨_, heap_alloc_new w20 _⟩ (by have := HTS.out; have := HSZ.out; have := HLT.out; omega) ?_
    intro g40 cap40 w40 hr40 hg40 hl40
    have DN := Lib.hid (HB20.out.ls.pushed ((Below.refl _ _).alloc (Nat.le_refl _) _) hr40 hg40 hl40)
    have hk40 := HKP.out _ _ _ _ _ HB20.out ((Below.refl _ _).alloc (Nat.le_refl _) _) hg40
    have hf40 : w40.frozen? ⟨p, 4, none⟩ = false := by
      have h1 := (HB20.out.ls.sc.chg (((Chg.refl (Value.slice ao ts.length cap).ownBlock.toList _).thenBelow ((Below.refl _ _).alloc (Nat.le_refl _) _)).grown hg40 (fun k hk => .inl (by simp [hk]))) (fun hm => (HB20.out.ls.own p (by simpa using hm)).2 rfl))
      exact h1.fr 4
    clear hr40 hg40 hl40
    refine hK.out _ _ hk40 (fun hHeld => ?_)
    clear hK K
    try simp only [Act.put, List.setIfInBounds_toArray, List.set_cons_zero, List.set_cons_succ, Nat.zero_add]
    refine wpAnyH_take (i := 10) (v := ?_) rfl (by kernel_rfl) (by kernel_rfl) (by kernel_rfl) (fun _ _ _ h => h) (Or.inl ⟨by rfl, ?_⟩) (by assumption) ?_
    rotate_left
    focus (intro w hSw; (try dsimp only at hSw); go_simp; try with_reducible rfl)
    try simp only [Act.put, List.setIfInBounds_toArray, List.set_cons_zero, List.set_cons_succ, Nat.zero_add]
    refine wpAnyH_take (i := 11) (v := ?_) rfl (by kernel_rfl) (by kernel_rfl) (by kernel_rfl) (fun _ _ _ h => h) (Or.inl ⟨by rfl, ?_⟩) (by assumption) ?_
    rotate_left
    focus (intro w hSw; (try dsimp only at hSw); go_simp; try with_reducible rfl)
    try simp only [Act.put, List.setIfInBounds_toArray, List.set_cons_zero, List.set_cons_succ, Nat.zero_add]
    refine wpAnyH_done (by kernel_rfl) ?_ _
    show Oper.wp _ _ _ _ _ _
    go_simp
    go_wp2
    go_end0
    exact ⟨rfl, i9, _, HI9.out, HD9.out, HP9.out, DN.out⟩
set_option maxRecDepth 100000 in
set_option maxHeartbeats 8000000 in
theorem step_word (N : Nat) (w0 w : World) (p i : Nat) (src : ByteArray) (q : Pos) (ts : List Tok) (vo : Value) (h : LS N w0 p src i q ts vo w) (hs : src.size ≤ 100000) (hq : PosOk i q) (c : UInt8) (r : List UInt8) (hcr : src.data.toList.drop i = c :: r)
    (hts : ts.length ≤ i) (hF : FTab w0) (hE : ErrVar w0) (hN : w0.heap.size ≤ N) (hnb : isBl c = false) (n1 : c ≠ 59) (n2 : c ≠ 40) (n3 : c ≠ 41) (n4 : c ≠ 34) :
    Calls Tryz.prog 14 #[.pointer (some ⟨p, 0, none⟩)] w (StepEnd N w0 p src ts (Lx.stepT c r q)) := by
  have c1 := h.sc.c1
  have c2 := h.sc.c2
  have c3 := h.sc.c3
  have HLB := Lib.hid (LB.start h)
  have hLEN : src.data.toList.length = src.size := (Lib.size_eq src).symm
  have hlt : i < src.size := by
    have := congrArg List.length hcr
    rw [List.length_drop, hLEN, List.length_cons] at this
    omega
  have hrl : r.length + i + 1 = src.size := by
    have := congrArg List.length hcr
    rw [List.length_drop, hLEN, List.length_cons] at this
    omega
  have hdr : src.data.toList.drop (i + 1) = r := by rw [← List.drop_drop, hcr]; rfl
  have hc : src[i]'hlt = c := by
    have := Lib.getD_at src i hlt
    have h2 : src.data.toList[i]? = some c := by
      have h3 : (src.data.toList.drop i)[0]? = some c := by rw [hcr]; rfl
      rwa [List.getElem?_drop] at h3
    rw [List.getD_eq_getElem?_getD, h2] at this
    exact this
  obtain ⟨hq1, hq2⟩ := hq.le (by omega)
  have HN : Hid (∀ W, LB N w0 p w.heap.size q src i q ts vo W → Calls Tryz.prog 22 #[.pointer (some ⟨p, 0, none⟩)] W fun e w' => e = .returned (.int .u8 c.toNat) ∧ LB N w0 p w.heap.size q src (i + 1) (adv q c) ts vo w') := fun W hW =>
    (next_any W p i src q vo hW.ls.sc hlt c hc (by omega) (by omega) (by omega)).mono fun e w' ⟨he, h3, h4⟩ => ⟨he, hW.next h3 h4⟩
  have HQ := Lib.hid hq
  have HTS := Lib.hid hts
  have HSZ := Lib.hid hs
  have HFT := Lib.hid hF
  have HEV := Lib.hid hE
  have HNN := Lib.hid hN
  have HDR := Lib.hid hdr
  have HRL := Lib.hid hrl
  have HLT := Lib.hid hlt
  have HLEN := Lib.hid hLEN
  have HBI := Lib.hid (fun W => blank_any c W)
  have hbi := blank_iff c
  generalize Lib.indexByte [32, 9, 10] c = bi at HBI hbi
  have nb : ¬ 0 ≤ bi := fun h => by rw [hbi.1 h] at hnb; cases hnb
  have db : decide (0 ≤ bi) = false := decide_eq_false nb
  have HWORD : Hid (∀ (j : Nat) (q' : Pos) W, i ≤ j → j ≤ src.size → (src.data.toList.drop i).take (j - i) = c :: r.takeWhile (fun d => !isEnd d) → LB N w0 p w.heap.size q src j q' ts vo W → Calls Tryz.prog 25 #[.string (src.extract i j), posV q] W fun e w' => e = wordEnd (c :: r.takeWhile (fun d => !isEnd d)) q ∧ LB N w0 p w.heap.size q src j q' ts vo w') := fun j q' W hij hj hw hW => by
    have hx : (src.extract i j).data.toList = c :: r.takeWhile (fun d => !isEnd d) := by
      rw [← hw]
      simp [ByteArray.data_extract, List.extract_eq_take_drop]
    have hz : (src.extract i j).size ≤ src.size := by
      rw [Lib.size_eq, hx, ← hw, List.length_take, List.length_drop, hLEN]
      omega
    have hb : Below w0.heap.size w0 W := hW.ls.below.mono hN
    have h := word_any (src.extract i j) (by omega) (by rw [hx]; simp) q W (hF.below hb) (hE.below hb)
    rw [hx] at h
    exact h.mono fun e w' h => ⟨h.1, hW.later h.2⟩
  have HSTART : Hid (∀ W, LB N w0 p w.heap.size q src (i + 1) (adv q c) ts vo W → WLoop N w0 p w.heap.size q src ts vo (fun d => !isEnd d) i (r.dropWhile (fun d => !isEnd d)) (c :: r.takeWhile (fun d => !isEnd d)) (advs q (c :: r.takeWhile (fun d => !isEnd d))) (src.size - (i + 1)) W) := fun W hW =>
    ⟨i + 1, adv q c, by omega, by omega, hq.adv c, by rw [hdr], by rw [hdr]; rfl, by rw [hdr, hcr, show i + 1 - i = 1 by omega]; rfl, hW⟩
  have hst : Lx.stepT c r q = match wordT (c :: r.takeWhile (fun d => !isEnd d)) with
    | none => .error q
    | some (k, n, t) => .ok (r.dropWhile (fun d => !isEnd d), advs q (c :: r.takeWhile (fun d => !isEnd d)), [⟨k, q.1, q.2, n, t⟩]) := by
    unfold Lx.stepT
    rw [if_neg (by rw [hnb]; simp), if_neg n1, if_neg n2, if_neg n3, if_neg n4]
    rfl
  rw [hst]
  have e1 : ((c.toNat : Int) == 59) = false := ne_lit n1 rfl
  have e2 : ((c.toNat : Int) == 40) = false := ne_lit n2 rfl
  have e3 : ((c.toNat : Int) == 41) = false := ne_lit n3 rfl
  have e4 : ((c.toNat : Int) == 34) = false := ne_lit n4 rfl
  generalize r.dropWhile (fun d => !isEnd d) = rf at HSTART ⊢
  generalize (c :: r.takeWhile (fun d => !isEnd d)) = wf at HSTART HWORD ⊢
  generalize advs q wf = qf at HSTART ⊢
  clear hst hnb hbi n1 n2 n3 n4
  cases hwt : wordT wf with
  | none =>
    have HS2 : Hid (∀ (j : Nat) (q' : Pos), i ≤ j → j ≤ src.size → (src.data.toList.drop i).take (j - i) = wf → ∀ W, LB N w0 p w.heap.size q src j q' ts vo W → Calls Tryz.prog 25 #[.string (src.extract i j), .agg #[.int .i64 q.1, .int .i64 q.2]] W fun e w' => e = .panicked [{ v := .iface 46 (.agg #[.int .i64 q.1, .int .i64 q.2]), recovered := false }] ∧ Below N w0 w') := fun j q' hij hj hw W hW =>
      (HWORD.out j q' W hij hj hw hW).mono fun e w' h => by
        have he := h.1
        unfold wordEnd at he
        rw [hwt] at he
        exact ⟨he, h.2.ls.below⟩
    clear hwt HWORD
    clear h hLEN hlt hrl hdr hc hq1 hq2 hq hts hs hF hE hN hcr
    go_enter Tryz.func14, Tryz.ntmps14
    go_wp2
    go_region_held3 (fun w' => w'.cell? ⟨p, 1, none⟩ = some (.int .i64 i) ∧ w'.cell? ⟨p, 2, none⟩ = some (.int .i64 q.1) ∧ w'.cell? ⟨p, 3, none⟩ = some (.int .i64 q.2)) (go_keep) (fail)
    go_wp2_with (first
      | (go_at_call 22; (with_reducible refine (HN.out _ HLB.out).mono ?_); rintro e w1 ⟨rfl, hb⟩; have HB := Lib.hid hb; clear hb HN; dsimp only)
      | (go_at_call 23; (with_reducible refine (HBI.out _).mono ?_); rintro e w_ ⟨rfl, hw⟩; rw [hw]; clear hw w_; dsimp only))
    replace HSTART := Lib.hid (HSTART.out _ HB.out)
    go_loopg [] (src.size - (i + 1)) (fun gk wr => WLoop N w0 p w.heap.size q src ts vo (fun d => !isEnd d) i rf wf qf gk wr)
    case atStart => exact HSTART.out
    case round =>
      obtain ⟨j, q', hij, hjg, hq', h1, h2, h3, hlb⟩ := hrel
      have HLB := Lib.hid hlb
      obtain ⟨x0, x1, y0, y1, y4⟩ := hlb.cells
      have HM := Lib.hid (fun n => more_q wr p j n src q' vo hlb.ls.sc)
      have HQJ := Lib.hid hq'
      have H1 := Lib.hid h1
      have H2 := Lib.hid h2
      have H3 := Lib.hid h3
      have HIJ := Lib.hid hij
      have HJG := Lib.hid hjg
      by_cases hlt : j < src.size
      · obtain ⟨d, r', hdr'⟩ : ∃ d r', src.data.toList.drop j = d :: r' := by
          cases hd : src.data.toList.drop j with
          | nil =>
            have := congrArg List.length hd
            rw [List.length_drop, HLEN.out] at this
            simp at this
            omega
          | cons d r' => exact ⟨d, r', rfl⟩
        have hdn : src.data.toList.drop (j + 1) = r' := by rw [← List.drop_drop, hdr']; rfl
        have hd : src[j]'hlt = d := by
          have := Lib.getD_at src j hlt
          have h5 : src.data.toList[j]? = some d := by
            have h6 : (src.data.toList.drop j)[0]? = some d := by rw [hdr']; rfl
            rwa [List.getElem?_drop] at h6
          rw [List.getD_eq_getElem?_getD, h5] at this
          exact this
        have hj8 : j ≤ 100000 := by have := HSZ.out; omega
        obtain ⟨hq1, hq2⟩ := hq'.le (by omega)
        have HN : Hid (∀ W, LB N w0 p w.heap.size q src j q' ts vo W → Calls Tryz.prog 22 #[.pointer (some ⟨p, 0, none⟩)] W fun e w' => e = .returned (.int .u8 d.toNat) ∧ LB N w0 p w.heap.size q src (j + 1) (adv q' d) ts vo w') := fun W hW =>
          (next_any W p j src q' vo hW.ls.sc hlt d hd (by have := HSZ.out; omega) (by omega) (by omega)).mono fun e w' ⟨he, h3, h4⟩ => ⟨he, hW.next h3 h4⟩
        have HDR' := Lib.hid hdr'
        have HDN := Lib.hid hdn
        have k0 : (j : Int) < (src.size : Int) := by omega
        have k1 : (0 : Int) ≤ (j : Int) := by omega
        have d1 : decide (j < src.size) = true := decide_eq_true hlt
        rw [d1] at HM
        have HXE := Lib.hid (fun W => ends_any d W)
        have hei := ends_iff d
        generalize Lib.indexByte [32, 9, 10, 40, 41, 34, 59] d = ei at HXE hei
        clear hij hjg hq' h1 h2 h3 hlb d1 hdr' hdn hq1 hq2
        cases hp : (fun d => !isEnd d) d with
        | true =>
          have e9 : ei < 0 := by
            have h9 : ¬ isEnd d = true := by simpa using hp
            have h8 : ¬ 0 ≤ ei := fun h => h9 (hei.1 h)
            omega
          have f9 : decide (ei < 0) = true := decide_eq_true e9
          clear hei
          have HP := Lib.hid hp
          clear hp
          go_wp2_with (fail)
          go_quiet ((first | (go_at_call 13; exact HM.out _) | (go_at_call 23; exact qs1 (HXE.out _))))
          go_wp2_with (go_at_call 22; (with_reducible refine (HN.out _ (HLB.out.later (below_drewN (Below.refl _ _) _))).mono ?_); rintro e w2 ⟨rfl, hb⟩; have HB2 := Lib.hid hb; clear hb HN; dsimp only)
          go_roundg (gk - 1)
          case measure => have := HJG.out; omega
          case rel =>
            have hp := HP.out
            refine ⟨j + 1, adv q' d, by have := HIJ.out; omega, by have := HJG.out; omega, HQJ.out.adv d, ?_, ?_, ?_, HB2.out⟩
            · rw [HDN.out]
              have h := H1.out
              rw [HDR'.out, List.dropWhile_cons, if_pos hp] at h
              exact h
            · rw [HDN.out]
              have h := H2.out
              rw [HDR'.out, List.takeWhile_cons, if_pos hp] at h
              exact h
            · rw [HDN.out]
              have h := H3.out
              rw [HDR'.out, List.takeWhile_cons, if_pos hp] at h
              rw [take_more HIJ.out HDR'.out]
              simpa using h
        | false =>
          have e9 : ¬ ei < 0 := by
            have h9 : isEnd d = true := by simpa using hp
            have h8 : 0 ≤ ei := hei.2 h9
            omega
          have f9 : decide (ei < 0) = false := decide_eq_false e9
          clear hei
          have HP := Lib.hid hp
          clear hp
          go_wp2_with (fail)
          go_quiet ((first | (go_at_call 13; exact HM.out _) | (go_at_call 23; exact qs1 (HXE.out _))))
          have HE1 : Hid (src.data.toList.drop j = rf) := by
            have h := H1.out
            rw [HDR'.out, List.dropWhile_cons, if_neg (by rw [HP.out]; simp)] at h
            exact HDR'.out.trans h
          have HE2 : Hid (q' = qf) := by
            have h := H2.out
            rw [HDR'.out, List.takeWhile_cons, if_neg (by rw [HP.out]; simp)] at h
            exact h
          have HE3 : Hid ((src.data.toList.drop i).take (j - i) = wf) := by
            have h := H3.out
            rw [HDR'.out, List.takeWhile_cons, if_neg (by rw [HP.out]; simp), List.append_nil] at h
            exact h
          clear H1 H2 H3 HDR' HDN HN
          go_wp2_with (fail)
          have HBX := Lib.hid (HLB.out.later (below_drewN (Below.refl _ _) nq))
          generalize wr.drewN nq = wz at *
          have k5 : (0 : Int) ≤ (i : Int) := by omega
          have k6 : (i : Int) ≤ (j : Int) := by have := HIJ.out; omega
          have k7 : (j : Int) ≤ (src.size : Int) := by have := HJG.out; omega
          have HJ9 : Hid (j ≤ src.size) := by show j ≤ _; have := HJG.out; omega
          clear x0 x1 y0 y1 y4
          obtain ⟨ao, cap, rfl, _⟩ := HBX.out.ls.form
          obtain ⟨x0, x1, y0, y1, y4⟩ := HBX.out.cells
          have HC9 := Lib.hid (HS2.out j q' HIJ.out HJ9.out HE3.out)
          generalize hbx : w.heap.size = bx at *
          have HR0 := Lib.hid (HBX.out.later (Below.refl _ _).drew)
          have HKP : Hid (∀ (jj : Nat) (qq : Pos) (W W1 w' : World), (LB N w0 p bx q src j q' ts (.slice ao ts.length cap) W) → Below W.heap.size W W1 → W1.grownBy w' (Value.slice ao ts.length cap).ownBlock → w'.cell? ⟨p, 4, none⟩ = some (.slice ao ts.length cap) ∧ w'.cell? ⟨bx, 0, none⟩ = some (.int .i64 q.1) ∧ w'.cell? ⟨bx, 1, none⟩ = some (.int .i64 q.2) ∧ w'.cell? ⟨p, 0, none⟩ = some (.string src) ∧ w'.cell? ⟨p, 1, none⟩ = some (.int .i64 j)) := fun jj qq W W1 w' hl hW hg => by
            have h1 := hl.ls.sc.chg (((Chg.refl (Value.slice ao ts.length cap).ownBlock.toList W).thenBelow hW).grown hg (fun k hk => .inl (by simp [hk]))) (fun hm => (hl.ls.own p (by simpa using hm)).2 rfl)
            have h2 := box2 (hl.ls.kept hW hg (lt_of_block hl.box) hl.own hl.box)
            exact ⟨h1.c4, h2.1, h2.2, h1.c0, h1.c1⟩
          refine wp_region_lastL (S := fun w' => w'.cell? ⟨p, 4, none⟩ = some (.slice ao ts.length cap) ∧ w'.cell? ⟨bx, 0, none⟩ = some (.int .i64 q.1) ∧ w'.cell? ⟨bx, 1, none⟩ = some (.int .i64 q.2) ∧ w'.cell? ⟨p, 0, none⟩ = some (.string src) ∧ w'.cell? ⟨p, 1, none⟩ = some (.int .i64 j)) (by kernel_rfl) (by simp only [butLast]; rfl) (by simp only [lastOf]; rfl) (by kernel_rfl) (by kernel_rfl) ?_ (fun hHeld => ?_)
          focus exact ⟨(HR0.out).cells.2.2.2.2, (HR0.out).cells.1, (HR0.out).cells.2.1, (HR0.out).cells.2.2.1, (HR0.out).cells.2.2.2.1⟩
          try simp only [List.size_toArray, List.length_cons, List.length_nil]
          refine wpAnyH_take (i := 0) (v := ?_) rfl (by kernel_rfl) (by kernel_rfl) (by kernel_rfl) (fun _ _ _ h => h) (Or.inl ⟨by rfl, ?_⟩) (by assumption) ?_
          rotate_left
          focus (intro w hSw; (try dsimp only at hSw); go_simp; try with_reducible rfl)
          try simp only [Act.put, List.setIfInBounds_toArray, List.set_cons_zero, List.set_cons_succ, Nat.zero_add]
          refine wpAnyH_take (i := 1) (v := ?_) rfl (by kernel_rfl) (by kernel_rfl) (by kernel_rfl) (fun _ _ _ h => h) (Or.inl ⟨by rfl, ?_⟩) (by assumption) ?_
          rotate_left
          focus (intro w hSw; (try dsimp only at hSw); go_simp; try with_reducible rfl)
          try simp only [Act.put, List.setIfInBounds_toArray, List.set_cons_zero, List.set_cons_succ, Nat.zero_add]
          refine wpAnyH_take (i := 2) (v := ?_) rfl (by kernel_rfl) (by kernel_rfl) (by kernel_rfl) (fun _ _ _ h => h) (Or.inl ⟨by rfl, ?_⟩) (by assumption) ?_
          rotate_left
          focus (intro w hSw; (try dsimp only at hSw); go_simp; try with_reducible rfl)
          try simp only [Act.put, List.setIfInBounds_toArray, List.set_cons_zero, List.set_cons_succ, Nat.zero_add]
          refine wpAnyH_take (i := 3) (v := ?_) rfl (by kernel_rfl) (by kernel_rfl) (by kernel_rfl) (fun _ _ _ h => h) (Or.inl ⟨by rfl, ?_⟩) (by assumption) ?_
          rotate_left
          focus (intro w hSw; (try dsimp only at hSw); go_simp; try with_reducible rfl)
          try simp only [Act.put, List.setIfInBounds_toArray, List.set_cons_zero, List.set_cons_succ, Nat.zero_add]
          refine wpAnyH_take (i := 4) (v := ?_) rfl (by kernel_rfl) (by kernel_rfl) (by kernel_rfl) (fun _ _ _ h => h) (Or.inl ⟨by rfl, ?_⟩) (by assumption) ?_
          rotate_left
          focus (intro w hSw; (try dsimp only at hSw); go_simp; try with_reducible rfl)
          try simp only [Act.put, List.setIfInBounds_toArray, List.set_cons_zero, List.set_cons_succ, Nat.zero_add]
          refine wpAnyH_take (i := 5) (v := ?_) rfl (by kernel_rfl) (by kernel_rfl) (by kernel_rfl) (fun _ _ _ h => h) (Or.inl ⟨by rfl, ?_⟩) (by assumption) ?_
          rotate_left
          focus (intro w hSw; (try dsimp only at hSw); go_simp; try with_reducible rfl)
          try simp only [Act.put, List.setIfInBounds_toArray, List.set_cons_zero, List.set_cons_succ, Nat.zero_add]
          refine wpAnyH_take (i := 6) (v := ?_) rfl (by kernel_rfl) (by kernel_rfl) (by kernel_rfl) (fun _ _ _ h => h) (Or.inl ⟨by rfl, ?_⟩) (by assumption) ?_
          rotate_left
          focus (intro w hSw; (try dsimp only at hSw); go_simp; try with_reducible rfl)
          try simp only [Act.put, List.setIfInBounds_toArray, List.set_cons_zero, List.set_cons_succ, Nat.zero_add]
          refine wpAnyH_take (i := 7) (v := ?_) rfl (by kernel_rfl) (by kernel_rfl) (by kernel_rfl) (fun _ _ _ h => h) (Or.inl ⟨by rfl, ?_⟩) (by assumption) ?_
          rotate_left
          focus (intro w hSw; (try dsimp only at hSw); go_simp; try with_reducible rfl)
          try simp only [Act.put, List.setIfInBounds_toArray, List.set_cons_zero, List.set_cons_succ, Nat.zero_add]
          refine wpAnyH_take (i := 8) (v := ?_) rfl (by kernel_rfl) (by kernel_rfl) (by kernel_rfl) (fun _ _ _ h => h) (Or.inl ⟨by rfl, ?_⟩) (by assumption) ?_
          rotate_left
          focus (intro w hSw; (try dsimp only at hSw); go_simp; try with_reducible rfl)
          try simp only [Act.put, List.setIfInBounds_toArray, List.set_cons_zero, List.set_cons_succ, Nat.zero_add]
          refine wpAnyH_take (i := 9) (v := ?_) rfl (by kernel_rfl) (by kernel_rfl) (by kernel_rfl) (fun _ _ _ h => h) (Or.inl ⟨by rfl, ?_⟩) (by assumption) ?_
          rotate_left
          focus (intro w hSw; (try dsimp only at hSw); go_simp; try with_reducible rfl)
          try simp only [Act.put, List.setIfInBounds_toArray, List.set_cons_zero, List.set_cons_succ, Nat.zero_add]
          refine wpAnyH_take (i := 10) (v := ?_) rfl (by kernel_rfl) (by kernel_rfl) (by kernel_rfl) (fun _ _ _ h => h) (Or.inl ⟨by rfl, ?_⟩) (by assumption) ?_
          rotate_left
          focus (intro w hSw; (try dsimp only at hSw); go_simp; try with_reducible rfl)
          try simp only [Act.put, List.setIfInBounds_toArray, List.set_cons_zero, List.set_cons_succ, Nat.zero_add]
          refine wpAnyH_take (i := 11) (v := ?_) rfl (by kernel_rfl) (by kernel_rfl) (by kernel_rfl) (fun _ _ _ h => h) (Or.inl ⟨by rfl, ?_⟩) (by assumption) ?_
          rotate_left
          focus (intro w hSw; (try dsimp only at hSw); go_simp; try with_reducible rfl)
          try simp only [Act.put, List.setIfInBounds_toArray, List.set_cons_zero, List.set_cons_succ, Nat.zero_add]
          refine wpAnyH_take (i := 12) (v := ?_) rfl (by kernel_rfl) (by kernel_rfl) (by kernel_rfl) (fun _ _ _ h => h) (Or.inl ⟨by rfl, ?_⟩) (by assumption) ?_
          rotate_left
          focus (intro w hSw; (try dsimp only at hSw); go_simp; try with_reducible rfl)
          try simp only [Act.put, List.setIfInBounds_toArray, List.set_cons_zero, List.set_cons_succ, Nat.zero_add]
          refine wpAnyH_take (i := 13) (v := ?_) rfl (by kernel_rfl) (by kernel_rfl) (by kernel_rfl) (fun _ _ _ h => h) (Or.inl ⟨by rfl, ?_⟩) (by assumption) ?_
          rotate_left
          focus (intro w hSw; (try dsimp only at hSw); go_simp; try with_reducible rfl)
          try simp only [Act.put, List.setIfInBounds_toArray, List.set_cons_zero, List.set_cons_succ, Nat.zero_add]
          refine wpAnyH_take (i := 14) (v := ?_) rfl (by kernel_rfl) (by kernel_rfl) (by kernel_rfl) (fun _ _ _ h => h) (Or.inl ⟨by rfl, ?_⟩) (by assumption) ?_
          rotate_left
          focus (intro w hSw; (try dsimp only at hSw); go_simp; try with_reducible rfl)
          try simp only [Act.put, List.setIfInBounds_toArray, List.set_cons_zero, List.set_cons_succ, Nat.zero_add]
          refine wpAnyH_take (i := 15) (v := ?_) rfl (by kernel_rfl) (by kernel_rfl) (by kernel_rfl) (fun _ _ _ h => h) (Or.inl ⟨by rfl, ?_⟩) (by assumption) ?_
          rotate_left
          focus (intro w hSw; (try dsimp only at hSw); go_simp; try with_reducible rfl)
          try simp only [Act.put, List.setIfInBounds_toArray, List.set_cons_zero, List.set_cons_succ, Nat.zero_add]
          refine wpAnyH_ready (rs := [16]) (by kernel_rfl) (by simp) ?_
          refine AllReadyH.cons rfl (fun K hK => ?_) AllReadyH.nil
          go_simp
          go_at_call 25
          refine (HC9.out _ HR0.out).mono ?_
          rintro e w20 ⟨rfl, hb20⟩
          dsimp only
          exact ⟨rfl, rfl, hb20⟩
      · have d1 : decide (j < src.size) = false := decide_eq_false hlt
        rw [d1] at HM
        have hnl : src.data.toList.drop j = [] := List.drop_eq_nil_of_le (by rw [HLEN.out]; omega)
        have HE1 : Hid (src.data.toList.drop j = rf) := by rw [hnl] at h1 ⊢; exact h1
        have HE2 : Hid (q' = qf) := by rw [hnl] at h2; exact h2
        have HE3 : Hid ((src.data.toList.drop i).take (j - i) = wf) := by rw [hnl] at h3; rw [← h3]; exact (List.append_nil _).symm
        clear hij hjg hq' h1 h2 h3 hlb d1 hlt hnl H1 H2 H3
        go_wp2_with (fail)
        go_quiet ((first | (go_at_call 13; exact HM.out _) | (go_at_call 23; exact qs1 (HXE.out _))))
        go_wp2_with (fail)
        have HBX := Lib.hid (HLB.out.later (below_drewN (Below.refl _ _) nq))
        generalize wr.drewN nq = wz at *
        have k5 : (0 : Int) ≤ (i : Int) := by omega
        have k6 : (i : Int) ≤ (j : Int) := by have := HIJ.out; omega
        have k7 : (j : Int) ≤ (src.size : Int) := by have := HJG.out; omega
        have HJ9 : Hid (j ≤ src.size) := by show j ≤ _; have := HJG.out; omega
        clear x0 x1 y0 y1 y4
        obtain ⟨ao, cap, rfl, _⟩ := HBX.out.ls.form
        obtain ⟨x0, x1, y0, y1, y4⟩ := HBX.out.cells
        have HC9 := Lib.hid (HS2.out j q' HIJ.out HJ9.out HE3.out)
        generalize hbx : w.heap.size = bx at *
        have HR0 := Lib.hid (HBX.out.later (Below.refl _ _).drew)
        have HKP : Hid (∀ (jj : Nat) (qq : Pos) (W W1 w' : World), (LB N w0 p bx q src j q' ts (.slice ao ts.length cap) W) → Below W.heap.size W W1 → W1.grownBy w' (Value.slice ao ts.length cap).ownBlock → w'.cell? ⟨p, 4, none⟩ = some (.slice ao ts.length cap) ∧ w'.cell? ⟨bx, 0, none⟩ = some (.int .i64 q.1) ∧ w'.cell? ⟨bx, 1, none⟩ = some (.int .i64 q.2) ∧ w'.cell? ⟨p, 0, none⟩ = some (.string src) ∧ w'.cell? ⟨p, 1, none⟩ = some (.int .i64 j)) := fun jj qq W W1 w' hl hW hg => by
          have h1 := hl.ls.sc.chg (((Chg.refl (Value.slice ao ts.length cap).ownBlock.toList W).thenBelow hW).grown hg (fun k hk => .inl (by simp [hk]))) (fun hm => (hl.ls.own p (by simpa using hm)).2 rfl)
          have h2 := box2 (hl.ls.kept hW hg (lt_of_block hl.box) hl.own hl.box)
          exact ⟨h1.c4, h2.1, h2.2, h1.c0, h1.c1⟩
        refine wp_region_lastL (S := fun w' => w'.cell? ⟨p, 4, none⟩ = some (.slice ao ts.length cap) ∧ w'.cell? ⟨bx, 0, none⟩ = some (.int .i64 q.1) ∧ w'.cell? ⟨bx, 1, none⟩ = some (.int .i64 q.2) ∧ w'.cell? ⟨p, 0, none⟩ = some (.string src) ∧ w'.cell? ⟨p, 1, none⟩ = some (.int .i64 j)) (by kernel_rfl) (by simp only [butLast]; rfl) (by simp only [lastOf]; rfl) (by kernel_rfl) (by kernel_rfl) ?_ (fun hHeld => ?_)
        focus exact ⟨(HR0.out).cells.2.2.2.2, (HR0.out).cells.1, (HR0.out).cells.2.1, (HR0.out).cells.2.2.1, (HR0.out).cells.2.2.2.1⟩
        try simp only [List.size_toArray, List.length_cons, List.length_nil]
        refine wpAnyH_take (i := 0) (v := ?_) rfl (by kernel_rfl) (by kernel_rfl) (by kernel_rfl) (fun _ _ _ h => h) (Or.inl ⟨by rfl, ?_⟩) (by assumption) ?_
        rotate_left
        focus (intro w hSw; (try dsimp only at hSw); go_simp; try with_reducible rfl)
        try simp only [Act.put, List.setIfInBounds_toArray, List.set_cons_zero, List.set_cons_succ, Nat.zero_add]
        refine wpAnyH_take (i := 1) (v := ?_) rfl (by kernel_rfl) (by kernel_rfl) (by kernel_rfl) (fun _ _ _ h => h) (Or.inl ⟨by rfl, ?_⟩) (by assumption) ?_
        rotate_left
        focus (intro w hSw; (try dsimp only at hSw); go_simp; try with_reducible rfl)
        try simp only [Act.put, List.setIfInBounds_toArray, List.set_cons_zero, List.set_cons_succ, Nat.zero_add]
        refine wpAnyH_take (i := 2) (v := ?_) rfl (by kernel_rfl) (by kernel_rfl) (by kernel_rfl) (fun _ _ _ h => h) (Or.inl ⟨by rfl, ?_⟩) (by assumption) ?_
        rotate_left
        focus (intro w hSw; (try dsimp only at hSw); go_simp; try with_reducible rfl)
        try simp only [Act.put, List.setIfInBounds_toArray, List.set_cons_zero, List.set_cons_succ, Nat.zero_add]
        refine wpAnyH_take (i := 3) (v := ?_) rfl (by kernel_rfl) (by kernel_rfl) (by kernel_rfl) (fun _ _ _ h => h) (Or.inl ⟨by rfl, ?_⟩) (by assumption) ?_
        rotate_left
        focus (intro w hSw; (try dsimp only at hSw); go_simp; try with_reducible rfl)
        try simp only [Act.put, List.setIfInBounds_toArray, List.set_cons_zero, List.set_cons_succ, Nat.zero_add]
        refine wpAnyH_take (i := 4) (v := ?_) rfl (by kernel_rfl) (by kernel_rfl) (by kernel_rfl) (fun _ _ _ h => h) (Or.inl ⟨by rfl, ?_⟩) (by assumption) ?_
        rotate_left
        focus (intro w hSw; (try dsimp only at hSw); go_simp; try with_reducible rfl)
        try simp only [Act.put, List.setIfInBounds_toArray, List.set_cons_zero, List.set_cons_succ, Nat.zero_add]
        refine wpAnyH_take (i := 5) (v := ?_) rfl (by kernel_rfl) (by kernel_rfl) (by kernel_rfl) (fun _ _ _ h => h) (Or.inl ⟨by rfl, ?_⟩) (by assumption) ?_
        rotate_left
        focus (intro w hSw; (try dsimp only at hSw); go_simp; try with_reducible rfl)
        try simp only [Act.put, List.setIfInBounds_toArray, List.set_cons_zero, List.set_cons_succ, Nat.zero_add]
        refine wpAnyH_take (i := 6) (v := ?_) rfl (by kernel_rfl) (by kernel_rfl) (by kernel_rfl) (fun _ _ _ h => h) (Or.inl ⟨by rfl, ?_⟩) (by assumption) ?_
        rotate_left
        focus (intro w hSw; (try dsimp only at hSw); go_simp; try with_reducible rfl)
        try simp only [Act.put, List.setIfInBounds_toArray, List.set_cons_zero, List.set_cons_succ, Nat.zero_add]
        refine wpAnyH_take (i := 7) (v := ?_) rfl (by kernel_rfl) (by kernel_rfl) (by kernel_rfl) (fun _ _ _ h => h) (Or.inl ⟨by rfl, ?_⟩) (by assumption) ?_
        rotate_left
        focus (intro w hSw; (try dsimp only at hSw); go_simp; try with_reducible rfl)
        try simp only [Act.put, List.setIfInBounds_toArray, List.set_cons_zero, List.set_cons_succ, Nat.zero_add]
        refine wpAnyH_take (i := 8) (v := ?_) rfl (by kernel_rfl) (by kernel_rfl) (by kernel_rfl) (fun _ _ _ h => h) (Or.inl ⟨by rfl, ?_⟩) (by assumption) ?_
        rotate_left
        focus (intro w hSw; (try dsimp only at hSw); go_simp; try with_reducible rfl)
        try simp only [Act.put, List.setIfInBounds_toArray, List.set_cons_zero, List.set_cons_succ, Nat.zero_add]
        refine wpAnyH_take (i := 9) (v := ?_) rfl (by kernel_rfl) (by kernel_rfl) (by kernel_rfl) (fun _ _ _ h => h) (Or.inl ⟨by rfl, ?_⟩) (by assumption) ?_
        rotate_left
        focus (intro w hSw; (try dsimp only at hSw); go_simp; try with_reducible rfl)
        try simp only [Act.put, List.setIfInBounds_toArray, List.set_cons_zero, List.set_cons_succ, Nat.zero_add]
        refine wpAnyH_take (i := 10) (v := ?_) rfl (by kernel_rfl) (by kernel_rfl) (by kernel_rfl) (fun _ _ _ h => h) (Or.inl ⟨by rfl, ?_⟩) (by assumption) ?_
        rotate_left
        focus (intro w hSw; (try dsimp only at hSw); go_simp; try with_reducible rfl)
        try simp only [Act.put, List.setIfInBounds_toArray, List.set_cons_zero, List.set_cons_succ, Nat.zero_add]
        refine wpAnyH_take (i := 11) (v := ?_) rfl (by kernel_rfl) (by kernel_rfl) (by kernel_rfl) (fun _ _ _ h => h) (Or.inl ⟨by rfl, ?_⟩) (by assumption) ?_
        rotate_left
        focus (intro w hSw; (try dsimp only at hSw); go_simp; try with_reducible rfl)
        try simp only [Act.put, List.setIfInBounds_toArray, List.set_cons_zero, List.set_cons_succ, Nat.zero_add]
        refine wpAnyH_take (i := 12) (v := ?_) rfl (by kernel_rfl) (by kernel_rfl) (by kernel_rfl) (fun _ _ _ h => h) (Or.inl ⟨by rfl, ?_⟩) (by assumption) ?_
        rotate_left
        focus (intro w hSw; (try dsimp only at hSw); go_simp; try with_reducible rfl)
        try simp only [Act.put, List.setIfInBounds_toArray, List.set_cons_zero, List.set_cons_succ, Nat.zero_add]
        refine wpAnyH_take (i := 13) (v := ?_) rfl (by kernel_rfl) (by kernel_rfl) (by kernel_rfl) (fun _ _ _ h => h) (Or.inl ⟨by rfl, ?_⟩) (by assumption) ?_
        rotate_left
        focus (intro w hSw; (try dsimp only at hSw); go_simp; try with_reducible rfl)
        try simp only [Act.put, List.setIfInBounds_toArray, List.set_cons_zero, List.set_cons_succ, Nat.zero_add]
        refine wpAnyH_take (i := 14) (v := ?_) rfl (by kernel_rfl) (by kernel_rfl) (by kernel_rfl) (fun _ _ _ h => h) (Or.inl ⟨by rfl, ?_⟩) (by assumption) ?_
        rotate_left
        focus (intro w hSw; (try dsimp only at hSw); go_simp; try with_reducible rfl)
        try simp only [Act.put, List.setIfInBounds_toArray, List.set_cons_zero, List.set_cons_succ, Nat.zero_add]
        refine wpAnyH_take (i := 15) (v := ?_) rfl (by kernel_rfl) (by kernel_rfl) (by kernel_rfl) (fun _ _ _ h => h) (Or.inl ⟨by rfl, ?_⟩) (by assumption) ?_
        rotate_left
        focus (intro w hSw; (try dsimp only at hSw); go_simp; try with_reducible rfl)
        try simp only [Act.put, List.setIfInBounds_toArray, List.set_cons_zero, List.set_cons_succ, Nat.zero_add]
        refine wpAnyH_ready (rs := [16]) (by kernel_rfl) (by simp) ?_
        refine AllReadyH.cons rfl (fun K hK => ?_) AllReadyH.nil
        go_simp
        go_at_call 25
        refine (HC9.out _ HR0.out).mono ?_
        rintro e w20 ⟨rfl, hb20⟩
        dsimp only
        exact ⟨rfl, rfl, hb20⟩
  | some x =>
    obtain ⟨tkk, tkn, tkt⟩ := x
    have HS2 : Hid (∀ (j : Nat) (q' : Pos), i ≤ j → j ≤ src.size → (src.data.toList.drop i).take (j - i) = wf → ∀ W, LB N w0 p w.heap.size q src j q' ts vo W → Calls Tryz.prog 25 #[.string (src.extract i j), .agg #[.int .i64 q.1, .int .i64 q.2]] W fun e w' => e = .returned (.agg #[.int .i64 tkk, .int .i64 q.1, .int .i64 q.2, .int .i64 tkn, .string (bytes tkt)]) ∧ LB N w0 p w.heap.size q src j q' ts vo w') := fun j q' hij hj hw W hW =>
      (HWORD.out j q' W hij hj hw hW).mono fun e w' h => by
        have he := h.1
        unfold wordEnd at he
        rw [hwt] at he
        exact ⟨he, h.2⟩
    clear hwt HWORD
    clear h hLEN hlt hrl hdr hc hq1 hq2 hq hts hs hF hE hN hcr
    go_enter Tryz.func14, Tryz.ntmps14
    go_wp2
    go_region_held3 (fun w' => w'.cell? ⟨p, 1, none⟩ = some (.int .i64 i) ∧ w'.cell? ⟨p, 2, none⟩ = some (.int .i64 q.1) ∧ w'.cell? ⟨p, 3, none⟩ = some (.int .i64 q.2)) (go_keep) (fail)
    go_wp2_with (first
      | (go_at_call 22; (with_reducible refine (HN.out _ HLB.out).mono ?_); rintro e w1 ⟨rfl, hb⟩; have HB := Lib.hid hb; clear hb HN; dsimp only)
      | (go_at_call 23; (with_reducible refine (HBI.out _).mono ?_); rintro e w_ ⟨rfl, hw⟩; rw [hw]; clear hw w_; dsimp only))
    replace HSTART := Lib.hid (HSTART.out _ HB.out)
    go_loopg [] (src.size - (i + 1)) (fun gk wr => WLoop N w0 p w.heap.size q src ts vo (fun d => !isEnd d) i rf wf qf gk wr)
    case atStart => exact HSTART.out
    case round =>
      obtain ⟨j, q', hij, hjg, hq', h1, h2, h3, hlb⟩ := hrel
      have HLB := Lib.hid hlb
      obtain ⟨x0, x1, y0, y1, y4⟩ := hlb.cells
      have HM := Lib.hid (fun n => more_q wr p j n src q' vo hlb.ls.sc)
      have HQJ := Lib.hid hq'
      have H1 := Lib.hid h1
      have H2 := Lib.hid h2
      have H3 := Lib.hid h3
      have HIJ := Lib.hid hij
      have HJG := Lib.hid hjg
      by_cases hlt : j < src.size
      · obtain ⟨d, r', hdr'⟩ : ∃ d r', src.data.toList.drop j = d :: r' := by
          cases hd : src.data.toList.drop j with
          | nil =>
            have := congrArg List.length hd
            rw [List.length_drop, HLEN.out] at this
            simp at this
            omega
          | cons d r' => exact ⟨d, r', rfl⟩
        have hdn : src.data.toList.drop (j + 1) = r' := by rw [← List.drop_drop, hdr']; rfl
        have hd : src[j]'hlt = d := by
          have := Lib.getD_at src j hlt
          have h5 : src.data.toList[j]? = some d := by
            have h6 : (src.data.toList.drop j)[0]? = some d := by rw [hdr']; rfl
            rwa [List.getElem?_drop] at h6
          rw [List.getD_eq_getElem?_getD, h5] at this
          exact this
        have hj8 : j ≤ 100000 := by have := HSZ.out; omega
        obtain ⟨hq1, hq2⟩ := hq'.le (by omega)
        have HN : Hid (∀ W, LB N w0 p w.heap.size q src j q' ts vo W → Calls Tryz.prog 22 #[.pointer (some ⟨p, 0, none⟩)] W fun e w' => e = .returned (.int .u8 d.toNat) ∧ LB N w0 p w.heap.size q src (j + 1) (adv q' d) ts vo w') := fun W hW =>
          (next_any W p j src q' vo hW.ls.sc hlt d hd (by have := HSZ.out; omega) (by omega) (by omega)).mono fun e w' ⟨he, h3, h4⟩ => ⟨he, hW.next h3 h4⟩
        have HDR' := Lib.hid hdr'
        have HDN := Lib.hid hdn
        have k0 : (j : Int) < (src.size : Int) := by omega
        have k1 : (0 : Int) ≤ (j : Int) := by omega
        have d1 : decide (j < src.size) = true := decide_eq_true hlt
        rw [d1] at HM
        have HXE := Lib.hid (fun W => ends_any d W)
        have hei := ends_iff d
        generalize Lib.indexByte [32, 9, 10, 40, 41, 34, 59] d = ei at HXE hei
        clear hij hjg hq' h1 h2 h3 hlb d1 hdr' hdn hq1 hq2
        cases hp : (fun d => !isEnd d) d with
        | true =>
          have e9 : ei < 0 := by
            have h9 : ¬ isEnd d = true := by simpa using hp
            have h8 : ¬ 0 ≤ ei := fun h => h9 (hei.1 h)
            omega
          have f9 : decide (ei < 0) = true := decide_eq_true e9
          clear hei
          have HP := Lib.hid hp
          clear hp
          go_wp2_with (fail)
          go_quiet ((first | (go_at_call 13; exact HM.out _) | (go_at_call 23; exact qs1 (HXE.out _))))
          go_wp2_with (go_at_call 22; (with_reducible refine (HN.out _ (HLB.out.later (below_drewN (Below.refl _ _) _))).mono ?_); rintro e w2 ⟨rfl, hb⟩; have HB2 := Lib.hid hb; clear hb HN; dsimp only)
          go_roundg (gk - 1)
          case measure => have := HJG.out; omega
          case rel =>
            have hp := HP.out
            refine ⟨j + 1, adv q' d, by have := HIJ.out; omega, by have := HJG.out; omega, HQJ.out.adv d, ?_, ?_, ?_, HB2.out⟩
            · rw [HDN.out]
              have h := H1.out
              rw [HDR'.out, List.dropWhile_cons, if_pos hp] at h
              exact h
            · rw [HDN.out]
              have h := H2.out
              rw [HDR'.out, List.takeWhile_cons, if_pos hp] at h
              exact h
            · rw [HDN.out]
              have h := H3.out
              rw [HDR'.out, List.takeWhile_cons, if_pos hp] at h
              rw [take_more HIJ.out HDR'.out]
              simpa using h
        | false =>
          have e9 : ¬ ei < 0 := by
            have h9 : isEnd d = true := by simpa using hp
            have h8 : 0 ≤ ei := hei.2 h9
            omega
          have f9 : decide (ei < 0) = false := decide_eq_false e9
          clear hei
          have HP := Lib.hid hp
          clear hp
          go_wp2_with (fail)
          go_quiet ((first | (go_at_call 13; exact HM.out _) | (go_at_call 23; exact qs1 (HXE.out _))))
          have HE1 : Hid (src.data.toList.drop j = rf) := by
            have h := H1.out
            rw [HDR'.out, List.dropWhile_cons, if_neg (by rw [HP.out]; simp)] at h
            exact HDR'.out.trans h
          have HE2 : Hid (q' = qf) := by
            have h := H2.out
            rw [HDR'.out, List.takeWhile_cons, if_neg (by rw [HP.out]; simp)] at h
            exact h
          have HE3 : Hid ((src.data.toList.drop i).take (j - i) = wf) := by
            have h := H3.out
            rw [HDR'.out, List.takeWhile_cons, if_neg (by rw [HP.out]; simp), List.append_nil] at h
            exact h
          clear H1 H2 H3 HDR' HDN HN
          go_wp2_with (fail)
          have HBX := Lib.hid (HLB.out.later (below_drewN (Below.refl _ _) nq))
          generalize wr.drewN nq = wz at *
          have k5 : (0 : Int) ≤ (i : Int) := by omega
          have k6 : (i : Int) ≤ (j : Int) := by have := HIJ.out; omega
          have k7 : (j : Int) ≤ (src.size : Int) := by have := HJG.out; omega
          have HJ9 : Hid (j ≤ src.size) := by show j ≤ _; have := HJG.out; omega
          clear x0 x1 y0 y1 y4
          obtain ⟨ao, cap, rfl, _⟩ := HBX.out.ls.form
          obtain ⟨x0, x1, y0, y1, y4⟩ := HBX.out.cells
          have HC9 := Lib.hid (HS2.out j q' HIJ.out HJ9.out HE3.out)
          generalize hbx : w.heap.size = bx at *
          have HR0 := Lib.hid (HBX.out.later (Below.refl _ _).drew)
          have HKP : Hid (∀ (jj : Nat) (qq : Pos) (W W1 w' : World), (LB N w0 p bx q src j q' ts (.slice ao ts.length cap) W) → Below W.heap.size W W1 → W1.grownBy w' (Value.slice ao ts.length cap).ownBlock → w'.cell? ⟨p, 4, none⟩ = some (.slice ao ts.length cap) ∧ w'.cell? ⟨bx, 0, none⟩ = some (.int .i64 q.1) ∧ w'.cell? ⟨bx, 1, none⟩ = some (.int .i64 q.2) ∧ w'.cell? ⟨p, 0, none⟩ = some (.string src) ∧ w'.cell? ⟨p, 1, none⟩ = some (.int .i64 j)) := fun jj qq W W1 w' hl hW hg => by
            have h1 := hl.ls.sc.chg (((Chg.refl (Value.slice ao ts.length cap).ownBlock.toList W).thenBelow hW).grown hg (fun k hk => .inl (by simp [hk]))) (fun hm => (hl.ls.own p (by simpa using hm)).2 rfl)
            have h2 := box2 (hl.ls.kept hW hg (lt_of_block hl.box) hl.own hl.box)
            exact ⟨h1.c4, h2.1, h2.2, h1.c0, h1.c1⟩
          refine wp_region_lastL (S := fun w' => w'.cell? ⟨p, 4, none⟩ = some (.slice ao ts.length cap) ∧ w'.cell? ⟨bx, 0, none⟩ = some (.int .i64 q.1) ∧ w'.cell? ⟨bx, 1, none⟩ = some (.int .i64 q.2) ∧ w'.cell? ⟨p, 0, none⟩ = some (.string src) ∧ w'.cell? ⟨p, 1, none⟩ = some (.int .i64 j)) (by kernel_rfl) (by simp only [butLast]; rfl) (by simp only [lastOf]; rfl) (by kernel_rfl) (by kernel_rfl) ?_ (fun hHeld => ?_)
          focus exact ⟨(HR0.out).cells.2.2.2.2, (HR0.out).cells.1, (HR0.out).cells.2.1, (HR0.out).cells.2.2.1, (HR0.out).cells.2.2.2.1⟩
          try simp only [List.size_toArray, List.length_cons, List.length_nil]
          refine wpAnyH_take (i := 0) (v := ?_) rfl (by kernel_rfl) (by kernel_rfl) (by kernel_rfl) (fun _ _ _ h => h) (Or.inl ⟨by rfl, ?_⟩) (by assumption) ?_
          rotate_left
          focus (intro w hSw; (try dsimp only at hSw); go_simp; try with_reducible rfl)
          try simp only [Act.put, List.setIfInBounds_toArray, List.set_cons_zero, List.set_cons_succ, Nat.zero_add]
          refine wpAnyH_take (i := 1) (v := ?_) rfl (by kernel_rfl) (by kernel_rfl) (by kernel_rfl) (fun _ _ _ h => h) (Or.inl ⟨by rfl, ?_⟩) (by assumption) ?_
          rotate_left
          focus (intro w hSw; (try dsimp only at hSw); go_simp; try with_reducible rfl)
          try simp only [Act.put, List.setIfInBounds_toArray, List.set_cons_zero, List.set_cons_succ, Nat.zero_add]
          refine wpAnyH_take (i := 2) (v := ?_) rfl (by kernel_rfl) (by kernel_rfl) (by kernel_rfl) (fun _ _ _ h => h) (Or.inl ⟨by rfl, ?_⟩) (by assumption) ?_
          rotate_left
          focus (intro w hSw; (try dsimp only at hSw); go_simp; try with_reducible rfl)
          try simp only [Act.put, List.setIfInBounds_toArray, List.set_cons_zero, List.set_cons_succ, Nat.zero_add]
          refine wpAnyH_take (i := 3) (v := ?_) rfl (by kernel_rfl) (by kernel_rfl) (by kernel_rfl) (fun _ _ _ h => h) (Or.inl ⟨by rfl, ?_⟩) (by assumption) ?_
          rotate_left
          focus (intro w hSw; (try dsimp only at hSw); go_simp; try with_reducible rfl)
          try simp only [Act.put, List.setIfInBounds_toArray, List.set_cons_zero, List.set_cons_succ, Nat.zero_add]
          refine wpAnyH_take (i := 4) (v := ?_) rfl (by kernel_rfl) (by kernel_rfl) (by kernel_rfl) (fun _ _ _ h => h) (Or.inl ⟨by rfl, ?_⟩) (by assumption) ?_
          rotate_left
          focus (intro w hSw; (try dsimp only at hSw); go_simp; try with_reducible rfl)
          try simp only [Act.put, List.setIfInBounds_toArray, List.set_cons_zero, List.set_cons_succ, Nat.zero_add]
          refine wpAnyH_take (i := 5) (v := ?_) rfl (by kernel_rfl) (by kernel_rfl) (by kernel_rfl) (fun _ _ _ h => h) (Or.inl ⟨by rfl, ?_⟩) (by assumption) ?_
          rotate_left
          focus (intro w hSw; (try dsimp only at hSw); go_simp; try with_reducible rfl)
          try simp only [Act.put, List.setIfInBounds_toArray, List.set_cons_zero, List.set_cons_succ, Nat.zero_add]
          refine wpAnyH_take (i := 6) (v := ?_) rfl (by kernel_rfl) (by kernel_rfl) (by kernel_rfl) (fun _ _ _ h => h) (Or.inl ⟨by rfl, ?_⟩) (by assumption) ?_
          rotate_left
          focus (intro w hSw; (try dsimp only at hSw); go_simp; try with_reducible rfl)
          try simp only [Act.put, List.setIfInBounds_toArray, List.set_cons_zero, List.set_cons_succ, Nat.zero_add]
          refine wpAnyH_take (i := 7) (v := ?_) rfl (by kernel_rfl) (by kernel_rfl) (by kernel_rfl) (fun _ _ _ h => h) (Or.inl ⟨by rfl, ?_⟩) (by assumption) ?_
          rotate_left
          focus (intro w hSw; (try dsimp only at hSw); go_simp; try with_reducible rfl)
          try simp only [Act.put, List.setIfInBounds_toArray, List.set_cons_zero, List.set_cons_succ, Nat.zero_add]
          refine wpAnyH_take (i := 8) (v := ?_) rfl (by kernel_rfl) (by kernel_rfl) (by kernel_rfl) (fun _ _ _ h => h) (Or.inl ⟨by rfl, ?_⟩) (by assumption) ?_
          rotate_left
          focus (intro w hSw; (try dsimp only at hSw); go_simp; try with_reducible rfl)
          try simp only [Act.put, List.setIfInBounds_toArray, List.set_cons_zero, List.set_cons_succ, Nat.zero_add]
          refine wpAnyH_take (i := 9) (v := ?_) rfl (by kernel_rfl) (by kernel_rfl) (by kernel_rfl) (fun _ _ _ h => h) (Or.inl ⟨by rfl, ?_⟩) (by assumption) ?_
          rotate_left
          focus (intro w hSw; (try dsimp only at hSw); go_simp; try with_reducible rfl)
          try simp only [Act.put, List.setIfInBounds_toArray, List.set_cons_zero, List.set_cons_succ, Nat.zero_add]
          refine wpAnyH_take (i := 10) (v := ?_) rfl (by kernel_rfl) (by kernel_rfl) (by kernel_rfl) (fun _ _ _ h => h) (Or.inl ⟨by rfl, ?_⟩) (by assumption) ?_
          rotate_left
          focus (intro w hSw; (try dsimp only at hSw); go_simp; try with_reducible rfl)
          try simp only [Act.put, List.setIfInBounds_toArray, List.set_cons_zero, List.set_cons_succ, Nat.zero_add]
          refine wpAnyH_take (i := 11) (v := ?_) rfl (by kernel_rfl) (by kernel_rfl) (by kernel_rfl) (fun _ _ _ h => h) (Or.inl ⟨by rfl, ?_⟩) (by assumption) ?_
          rotate_left
          focus (intro w hSw; (try dsimp only at hSw); go_simp; try with_reducible rfl)
          try simp only [Act.put, List.setIfInBounds_toArray, List.set_cons_zero, List.set_cons_succ, Nat.zero_add]
          refine wpAnyH_take (i := 12) (v := ?_) rfl (by kernel_rfl) (by kernel_rfl) (by kernel_rfl) (fun _ _ _ h => h) (Or.inl ⟨by rfl, ?_⟩) (by assumption) ?_
          rotate_left
          focus (intro w hSw; (try dsimp only at hSw); go_simp; try with_reducible rfl)
          try simp only [Act.put, List.setIfInBounds_toArray, List.set_cons_zero, List.set_cons_succ, Nat.zero_add]
          refine wpAnyH_take (i := 13) (v := ?_) rfl (by kernel_rfl) (by kernel_rfl) (by kernel_rfl) (fun _ _ _ h => h) (Or.inl ⟨by rfl, ?_⟩) (by assumption) ?_
          rotate_left
          focus (intro w hSw; (try dsimp only at hSw); go_simp; try with_reducible rfl)
          try simp only [Act.put, List.setIfInBounds_toArray, List.set_cons_zero, List.set_cons_succ, Nat.zero_add]
          refine wpAnyH_take (i := 14) (v := ?_) rfl (by kernel_rfl) (by kernel_rfl) (by kernel_rfl) (fun _ _ _ h => h) (Or.inl ⟨by rfl, ?_⟩) (by assumption) ?_
          rotate_left
          focus (intro w hSw; (try dsimp only at hSw); go_simp; try with_reducible rfl)
          try simp only [Act.put, List.setIfInBounds_toArray, List.set_cons_zero, List.set_cons_succ, Nat.zero_add]
          refine wpAnyH_take (i := 15) (v := ?_) rfl (by kernel_rfl) (by kernel_rfl) (by kernel_rfl) (fun _ _ _ h => h) (Or.inl ⟨by rfl, ?_⟩) (by assumption) ?_
          rotate_left
          focus (intro w hSw; (try dsimp only at hSw); go_simp; try with_reducible rfl)
          try simp only [Act.put, List.setIfInBounds_toArray, List.set_cons_zero, List.set_cons_succ, Nat.zero_add]
          refine wpAnyH_ready (rs := [16]) (by kernel_rfl) (by simp) ?_
          refine AllReadyH.cons rfl (fun K hK => ?_) AllReadyH.nil
          go_simp
          go_at_call 25
          refine (HC9.out _ HR0.out).mono ?_
          rintro e w20 ⟨rfl, hb20⟩
          have HB20 := Lib.hid hb20
          clear hb20
          dsimp only
          refine hK.out _ _ ⟨(HB20.out).cells.2.2.2.2, (HB20.out).cells.1, (HB20.out).cells.2.1, (HB20.out).cells.2.2.1, (HB20.out).cells.2.2.2.1⟩ (fun hHeld => ?_)
          clear hK K
          try simp only [Act.put, List.setIfInBounds_toArray, List.set_cons_zero, List.set_cons_succ, Nat.zero_add]
          refine wpAnyH_ready (rs := [17]) (by kernel_rfl) (by simp) ?_
          refine AllReadyH.cons rfl (fun K hK => ?_) AllReadyH.nil
          go_simp
          refine hK.out _ _ (⟨(HB20.out.later ((Below.refl _ _).alloc (Nat.le_refl _) _)).cells.2.2.2.2, (HB20.out.later ((Below.refl _ _).alloc (Nat.le_refl _) _)).cells.1, (HB20.out.later ((Below.refl _ _).alloc (Nat.le_refl _) _)).cells.2.1, (HB20.out.later ((Below.refl _ _).alloc (Nat.le_refl _) _)).cells.2.2.1, (HB20.out.later ((Below.refl _ _).alloc (Nat.le_refl _) _)).cells.2.2.2.1⟩) (fun hHeld => ?_)
          clear hK K
          try simp only [Act.put, List.setIfInBounds_toArray, List.set_cons_zero, List.set_cons_succ, Nat.zero_add]
          refine wpAnyH_ready (rs := [18]) (by kernel_rfl) (by simp) ?_
          refine AllReadyH.cons rfl (fun K hK => ?_) AllReadyH.nil
          refine step_appt (t := ⟨tkk, q.1, q.2, tkn, tkt⟩) (by rfl) _ _ (by rfl) (by rfl) (HB20.out.later ((Below.refl _ _).alloc (Nat.le_refl _) _)).ls.row (by rfl) ⟨_, heap_alloc_new w20 _⟩ (by have := HTS.out; have := HSZ.out; have := HLT.out; omega) ?_
          intro g40 cap40 w40 hr40 hg40 hl40
          have DN := Lib.hid (HB20.out.ls.pushed ((Below.refl _ _).alloc (Nat.le_refl _) _) hr40 hg40 hl40)
          have hk40 := HKP.out 0 (1, 1) _ _ _ HB20.out ((Below.refl _ _).alloc (Nat.le_refl _) _) hg40
          have hf40 : w40.frozen? ⟨p, 4, none⟩ = false := by
            have h1 := (HB20.out.ls.sc.chg (((Chg.refl (Value.slice ao ts.length cap).ownBlock.toList _).thenBelow ((Below.refl _ _).alloc (Nat.le_refl _) _)).grown hg40 (fun k hk => .inl (by simp [hk]))) (fun hm => (HB20.out.ls.own p (by simpa using hm)).2 rfl))
            exact h1.fr 4
          clear hr40 hg40 hl40
          refine hK.out _ _ hk40 (fun hHeld => ?_)
          clear hK K
          try simp only [Act.put, List.setIfInBounds_toArray, List.set_cons_zero, List.set_cons_succ, Nat.zero_add]
          refine wpAnyH_take (i := 19) (v := ?_) rfl (by kernel_rfl) (by kernel_rfl) (by kernel_rfl) (fun _ _ _ h => h) (Or.inl ⟨by rfl, ?_⟩) (by assumption) ?_
          rotate_left
          focus (intro w hSw; (try dsimp only at hSw); go_simp; try with_reducible rfl)
          try simp only [Act.put, List.setIfInBounds_toArray, List.set_cons_zero, List.set_cons_succ, Nat.zero_add]
          refine wpAnyH_take (i := 20) (v := ?_) rfl (by kernel_rfl) (by kernel_rfl) (by kernel_rfl) (fun _ _ _ h => h) (Or.inl ⟨by rfl, ?_⟩) (by assumption) ?_
          rotate_left
          focus (intro w hSw; (try dsimp only at hSw); go_simp; try with_reducible rfl)
          try simp only [Act.put, List.setIfInBounds_toArray, List.set_cons_zero, List.set_cons_succ, Nat.zero_add]
          refine wpAnyH_done (by kernel_rfl) ?_ _
          show Oper.wp _ _ _ _ _ _
          go_simp
          go_wp2
          go_end0
          exact ⟨rfl, j, _, HJ9.out, HE1.out, by rw [← HE2.out]; exact HQJ.out, by rw [← HE2.out]; exact DN.out⟩
      · have d1 : decide (j < src.size) = false := decide_eq_false hlt
        rw [d1] at HM
        have hnl : src.data.toList.drop j = [] := List.drop_eq_nil_of_le (by rw [HLEN.out]; omega)
        have HE1 : Hid (src.data.toList.drop j = rf) := by rw [hnl] at h1 ⊢; exact h1
        have HE2 : Hid (q' = qf) := by rw [hnl] at h2; exact h2
        have HE3 : Hid ((src.data.toList.drop i).take (j - i) = wf) := by rw [hnl] at h3; rw [← h3]; exact (List.append_nil _).symm
        clear hij hjg hq' h1 h2 h3 hlb d1 hlt hnl H1 H2 H3
        go_wp2_with (fail)
        go_quiet ((first | (go_at_call 13; exact HM.out _) | (go_at_call 23; exact qs1 (HXE.out _))))
        go_wp2_with (fail)
        have HBX := Lib.hid (HLB.out.later (below_drewN (Below.refl _ _) nq))
        generalize wr.drewN nq = wz at *
        have k5 : (0 : Int) ≤ (i : Int) := by omega
        have k6 : (i : Int) ≤ (j : Int) := by have := HIJ.out; omega
        have k7 : (j : Int) ≤ (src.size : Int) := by have := HJG.out; omega
        have HJ9 : Hid (j ≤ src.size) := by show j ≤ _; have := HJG.out; omega
        clear x0 x1 y0 y1 y4
        obtain ⟨ao, cap, rfl, _⟩ := HBX.out.ls.form
        obtain ⟨x0, x1, y0, y1, y4⟩ := HBX.out.cells
        have HC9 := Lib.hid (HS2.out j q' HIJ.out HJ9.out HE3.out)
        generalize hbx : w.heap.size = bx at *
        have HR0 := Lib.hid (HBX.out.later (Below.refl _ _).drew)
        have HKP : Hid (∀ (jj : Nat) (qq : Pos) (W W1 w' : World), (LB N w0 p bx q src j q' ts (.slice ao ts.length cap) W) → Below W.heap.size W W1 → W1.grownBy w' (Value.slice ao ts.length cap).ownBlock → w'.cell? ⟨p, 4, none⟩ = some (.slice ao ts.length cap) ∧ w'.cell? ⟨bx, 0, none⟩ = some (.int .i64 q.1) ∧ w'.cell? ⟨bx, 1, none⟩ = some (.int .i64 q.2) ∧ w'.cell? ⟨p, 0, none⟩ = some (.string src) ∧ w'.cell? ⟨p, 1, none⟩ = some (.int .i64 j)) := fun jj qq W W1 w' hl hW hg => by
          have h1 := hl.ls.sc.chg (((Chg.refl (Value.slice ao ts.length cap).ownBlock.toList W).thenBelow hW).grown hg (fun k hk => .inl (by simp [hk]))) (fun hm => (hl.ls.own p (by simpa using hm)).2 rfl)
          have h2 := box2 (hl.ls.kept hW hg (lt_of_block hl.box) hl.own hl.box)
          exact ⟨h1.c4, h2.1, h2.2, h1.c0, h1.c1⟩
        refine wp_region_lastL (S := fun w' => w'.cell? ⟨p, 4, none⟩ = some (.slice ao ts.length cap) ∧ w'.cell? ⟨bx, 0, none⟩ = some (.int .i64 q.1) ∧ w'.cell? ⟨bx, 1, none⟩ = some (.int .i64 q.2) ∧ w'.cell? ⟨p, 0, none⟩ = some (.string src) ∧ w'.cell? ⟨p, 1, none⟩ = some (.int .i64 j)) (by kernel_rfl) (by simp only [butLast]; rfl) (by simp only [lastOf]; rfl) (by kernel_rfl) (by kernel_rfl) ?_ (fun hHeld => ?_)
        focus exact ⟨(HR0.out).cells.2.2.2.2, (HR0.out).cells.1, (HR0.out).cells.2.1, (HR0.out).cells.2.2.1, (HR0.out).cells.2.2.2.1⟩
        try simp only [List.size_toArray, List.length_cons, List.length_nil]
        refine wpAnyH_take (i := 0) (v := ?_) rfl (by kernel_rfl) (by kernel_rfl) (by kernel_rfl) (fun _ _ _ h => h) (Or.inl ⟨by rfl, ?_⟩) (by assumption) ?_
        rotate_left
        focus (intro w hSw; (try dsimp only at hSw); go_simp; try with_reducible rfl)
        try simp only [Act.put, List.setIfInBounds_toArray, List.set_cons_zero, List.set_cons_succ, Nat.zero_add]
        refine wpAnyH_take (i := 1) (v := ?_) rfl (by kernel_rfl) (by kernel_rfl) (by kernel_rfl) (fun _ _ _ h => h) (Or.inl ⟨by rfl, ?_⟩) (by assumption) ?_
        rotate_left
        focus (intro w hSw; (try dsimp only at hSw); go_simp; try with_reducible rfl)
        try simp only [Act.put, List.setIfInBounds_toArray, List.set_cons_zero, List.set_cons_succ, Nat.zero_add]
        refine wpAnyH_take (i := 2) (v := ?_) rfl (by kernel_rfl) (by kernel_rfl) (by kernel_rfl) (fun _ _ _ h => h) (Or.inl ⟨by rfl, ?_⟩) (by assumption) ?_
        rotate_left
        focus (intro w hSw; (try dsimp only at hSw); go_simp; try with_reducible rfl)
        try simp only [Act.put, List.setIfInBounds_toArray, List.set_cons_zero, List.set_cons_succ, Nat.zero_add]
        refine wpAnyH_take (i := 3) (v := ?_) rfl (by kernel_rfl) (by kernel_rfl) (by kernel_rfl) (fun _ _ _ h => h) (Or.inl ⟨by rfl, ?_⟩) (by assumption) ?_
        rotate_left
        focus (intro w hSw; (try dsimp only at hSw); go_simp; try with_reducible rfl)
        try simp only [Act.put, List.setIfInBounds_toArray, List.set_cons_zero, List.set_cons_succ, Nat.zero_add]
        refine wpAnyH_take (i := 4) (v := ?_) rfl (by kernel_rfl) (by kernel_rfl) (by kernel_rfl) (fun _ _ _ h => h) (Or.inl ⟨by rfl, ?_⟩) (by assumption) ?_
        rotate_left
        focus (intro w hSw; (try dsimp only at hSw); go_simp; try with_reducible rfl)
        try simp only [Act.put, List.setIfInBounds_toArray, List.set_cons_zero, List.set_cons_succ, Nat.zero_add]
        refine wpAnyH_take (i := 5) (v := ?_) rfl (by kernel_rfl) (by kernel_rfl) (by kernel_rfl) (fun _ _ _ h => h) (Or.inl ⟨by rfl, ?_⟩) (by assumption) ?_
        rotate_left
        focus (intro w hSw; (try dsimp only at hSw); go_simp; try with_reducible rfl)
        try simp only [Act.put, List.setIfInBounds_toArray, List.set_cons_zero, List.set_cons_succ, Nat.zero_add]
        refine wpAnyH_take (i := 6) (v := ?_) rfl (by kernel_rfl) (by kernel_rfl) (by kernel_rfl) (fun _ _ _ h => h) (Or.inl ⟨by rfl, ?_⟩) (by assumption) ?_
        rotate_left
        focus (intro w hSw; (try dsimp only at hSw); go_simp; try with_reducible rfl)
        try simp only [Act.put, List.setIfInBounds_toArray, List.set_cons_zero, List.set_cons_succ, Nat.zero_add]
        refine wpAnyH_take (i := 7) (v := ?_) rfl (by kernel_rfl) (by kernel_rfl) (by kernel_rfl) (fun _ _ _ h => h) (Or.inl ⟨by rfl, ?_⟩) (by assumption) ?_
        rotate_left
        focus (intro w hSw; (try dsimp only at hSw); go_simp; try with_reducible rfl)
        try simp only [Act.put, List.setIfInBounds_toArray, List.set_cons_zero, List.set_cons_succ, Nat.zero_add]
        refine wpAnyH_take (i := 8) (v := ?_) rfl (by kernel_rfl) (by kernel_rfl) (by kernel_rfl) (fun _ _ _ h => h) (Or.inl ⟨by rfl, ?_⟩) (by assumption) ?_
        rotate_left
        focus (intro w hSw; (try dsimp only at hSw); go_simp; try with_reducible rfl)
        try simp only [Act.put, List.setIfInBounds_toArray, List.set_cons_zero, List.set_cons_succ, Nat.zero_add]
        refine wpAnyH_take (i := 9) (v := ?_) rfl (by kernel_rfl) (by kernel_rfl) (by kernel_rfl) (fun _ _ _ h => h) (Or.inl ⟨by rfl, ?_⟩) (by assumption) ?_
        rotate_left
        focus (intro w hSw; (try dsimp only at hSw); go_simp; try with_reducible rfl)
        try simp only [Act.put, List.setIfInBounds_toArray, List.set_cons_zero, List.set_cons_succ, Nat.zero_add]
        refine wpAnyH_take (i := 10) (v := ?_) rfl (by kernel_rfl) (by kernel_rfl) (by kernel_rfl) (fun _ _ _ h => h) (Or.inl ⟨by rfl, ?_⟩) (by assumption) ?_
        rotate_left
        focus (intro w hSw; (try dsimp only at hSw); go_simp; try with_reducible rfl)
        try simp only [Act.put, List.setIfInBounds_toArray, List.set_cons_zero, List.set_cons_succ, Nat.zero_add]
        refine wpAnyH_take (i := 11) (v := ?_) rfl (by kernel_rfl) (by kernel_rfl) (by kernel_rfl) (fun _ _ _ h => h) (Or.inl ⟨by rfl, ?_⟩) (by assumption) ?_
        rotate_left
        focus (intro w hSw; (try dsimp only at hSw); go_simp; try with_reducible rfl)
        try simp only [Act.put, List.setIfInBounds_toArray, List.set_cons_zero, List.set_cons_succ, Nat.zero_add]
        refine wpAnyH_take (i := 12) (v := ?_) rfl (by kernel_rfl) (by kernel_rfl) (by kernel_rfl) (fun _ _ _ h => h) (Or.inl ⟨by rfl, ?_⟩) (by assumption) ?_
        rotate_left
        focus (intro w hSw; (try dsimp only at hSw); go_simp; try with_reducible rfl)
        try simp only [Act.put, List.setIfInBounds_toArray, List.set_cons_zero, List.set_cons_succ, Nat.zero_add]
        refine wpAnyH_take (i := 13) (v := ?_) rfl (by kernel_rfl) (by kernel_rfl) (by kernel_rfl) (fun _ _ _ h => h) (Or.inl ⟨by rfl, ?_⟩) (by assumption) ?_
        rotate_left
        focus (intro w hSw; (try dsimp only at hSw); go_simp; try with_reducible rfl)
        try simp only [Act.put, List.setIfInBounds_toArray, List.set_cons_zero, List.set_cons_succ, Nat.zero_add]
        refine wpAnyH_take (i := 14) (v := ?_) rfl (by kernel_rfl) (by kernel_rfl) (by kernel_rfl) (fun _ _ _ h => h) (Or.inl ⟨by rfl, ?_⟩) (by assumption) ?_
        rotate_left
        focus (intro w hSw; (try dsimp only at hSw); go_simp; try with_reducible rfl)
        try simp only [Act.put, List.setIfInBounds_toArray, List.set_cons_zero, List.set_cons_succ, Nat.zero_add]
        refine wpAnyH_take (i := 15) (v := ?_) rfl (by kernel_rfl) (by kernel_rfl) (by kernel_rfl) (fun _ _ _ h => h) (Or.inl ⟨by rfl, ?_⟩) (by assumption) ?_
        rotate_left
        focus (intro w hSw; (try dsimp only at hSw); go_simp; try with_reducible rfl)
        try simp only [Act.put, List.setIfInBounds_toArray, List.set_cons_zero, List.set_cons_succ, Nat.zero_add]
        refine wpAnyH_ready (rs := [16]) (by kernel_rfl) (by simp) ?_
        refine AllReadyH.cons rfl (fun K hK => ?_) AllReadyH.nil
        go_simp
        go_at_call 25
        refine (HC9.out _ HR0.out).mono ?_
        rintro e w20 ⟨rfl, hb20⟩
        have HB20 := Lib.hid hb20
        clear hb20
        dsimp only
        refine hK.out _ _ ⟨(HB20.out).cells.2.2.2.2, (HB20.out).cells.1, (HB20.out).cells.2.1, (HB20.out).cells.2.2.1, (HB20.out).cells.2.2.2.1⟩ (fun hHeld => ?_)
        clear hK K
        try simp only [Act.put, List.setIfInBounds_toArray, List.set_cons_zero, List.set_cons_succ, Nat.zero_add]
        refine wpAnyH_ready (rs := [17]) (by kernel_rfl) (by simp) ?_
        refine AllReadyH.cons rfl (fun K hK => ?_) AllReadyH.nil
        go_simp
        refine hK.out _ _ (⟨(HB20.out.later ((Below.refl _ _).alloc (Nat.le_refl _) _)).cells.2.2.2.2, (HB20.out.later ((Below.refl _ _).alloc (Nat.le_refl _) _)).cells.1, (HB20.out.later ((Below.refl _ _).alloc (Nat.le_refl _) _)).cells.2.1, (HB20.out.later ((Below.refl _ _).alloc (Nat.le_refl _) _)).cells.2.2.1, (HB20.out.later ((Below.refl _ _).alloc (Nat.le_refl _) _)).cells.2.2.2.1⟩) (fun hHeld => ?_)
        clear hK K
        try simp only [Act.put, List.setIfInBounds_toArray, List.set_cons_zero, List.set_cons_succ, Nat.zero_add]
        refine wpAnyH_ready (rs := [18]) (by kernel_rfl) (by simp) ?_
        refine AllReadyH.cons rfl (fun K hK => ?_) AllReadyH.nil
        refine step_appt (t := ⟨tkk, q.1, q.2, tkn, tkt⟩) (by rfl) _ _ (by rfl) (by rfl) (HB20.out.later ((Below.refl _ _).alloc (Nat.le_refl _) _)).ls.row (by rfl) ⟨_, heap_alloc_new w20 _⟩ (by have := HTS.out; have := HSZ.out; have := HLT.out; omega) ?_
        intro g40 cap40 w40 hr40 hg40 hl40
        have DN := Lib.hid (HB20.out.ls.pushed ((Below.refl _ _).alloc (Nat.le_refl _) _) hr40 hg40 hl40)
        have hk40 := HKP.out 0 (1, 1) _ _ _ HB20.out ((Below.refl _ _).alloc (Nat.le_refl _) _) hg40
        have hf40 : w40.frozen? ⟨p, 4, none⟩ = false := by
          have h1 := (HB20.out.ls.sc.chg (((Chg.refl (Value.slice ao ts.length cap).ownBlock.toList _).thenBelow ((Below.refl _ _).alloc (Nat.le_refl _) _)).grown hg40 (fun k hk => .inl (by simp [hk]))) (fun hm => (HB20.out.ls.own p (by simpa using hm)).2 rfl))
          exact h1.fr 4
        clear hr40 hg40 hl40
        refine hK.out _ _ hk40 (fun hHeld => ?_)
        clear hK K
        try simp only [Act.put, List.setIfInBounds_toArray, List.set_cons_zero, List.set_cons_succ, Nat.zero_add]
        refine wpAnyH_take (i := 19) (v := ?_) rfl (by kernel_rfl) (by kernel_rfl) (by kernel_rfl) (fun _ _ _ h => h) (Or.inl ⟨by rfl, ?_⟩) (by assumption) ?_
        rotate_left
        focus (intro w hSw; (try dsimp only at hSw); go_simp; try with_reducible rfl)
        try simp only [Act.put, List.setIfInBounds_toArray, List.set_cons_zero, List.set_cons_succ, Nat.zero_add]
        refine wpAnyH_take (i := 20) (v := ?_) rfl (by kernel_rfl) (by kernel_rfl) (by kernel_rfl) (fun _ _ _ h => h) (Or.inl ⟨by rfl, ?_⟩) (by assumption) ?_
        rotate_left
        focus (intro w hSw; (try dsimp only at hSw); go_simp; try with_reducible rfl)
        try simp only [Act.put, List.setIfInBounds_toArray, List.set_cons_zero, List.set_cons_succ, Nat.zero_add]
        refine wpAnyH_done (by kernel_rfl) ?_ _
        show Oper.wp _ _ _ _ _ _
        go_simp
        go_wp2
        go_end0
        exact ⟨rfl, j, _, HJ9.out, HE1.out, by rw [← HE2.out]; exact HQJ.out, by rw [← HE2.out]; exact DN.out⟩
theorem step_any (N : Nat) (w0 w : World) (p i : Nat) (src : ByteArray) (q : Pos) (ts : List Tok) (vo : Value) (h : LS N w0 p src i q ts vo w) (hs : src.size ≤ 100000) (hq : PosOk i q) (c : UInt8) (r : List UInt8) (hcr : src.data.toList.drop i = c :: r)
    (hts : ts.length ≤ i) (hF : FTab w0) (hE : ErrVar w0) (hN : w0.heap.size ≤ N) :
    Calls Tryz.prog 14 #[.pointer (some ⟨p, 0, none⟩)] w (StepEnd N w0 p src ts (Lx.stepT c r q)) := by
  by_cases hb : isBl c = true
  · exact step_blank N w0 w p i src q ts vo h hs hq c r hcr hts hF hE hN hb
  · have hnb : isBl c = false := by simpa using hb
    by_cases h1 : c = 59
    · exact step_comment N w0 w p i src q ts vo h hs hq c r hcr hts hF hE hN h1
    · by_cases h2 : c = 40
      · exact step_open N w0 w p i src q ts vo h hs hq c r hcr hts hF hE hN h2
      · by_cases h3 : c = 41
        · exact step_close N w0 w p i src q ts vo h hs hq c r hcr hts hF hE hN h3
        · by_cases h4 : c = 34
          · exact step_str N w0 w p i src q ts vo h hs hq c r hcr hts hF hE hN h4
          · exact step_word N w0 w p i src q ts vo h hs hq c r hcr hts hF hE hN hnb h1 h2 h3 h4
end Go.Proofs.YtlailomhgipppaaGreatDoor
