/- Layer 10: a string behind its first quote. -/
import Derived.Test.YtlailomhgipppaaGreatDoorLexWalk3
namespace Go.Proofs.YtlailomhgipppaaGreatDoor
open Go.RowKit Lx
set_option linter.unusedVariables false
set_option linter.unusedSimpArgs false

def PosOk (i : Nat) (q : Pos) : Prop := 1 ≤ q.2 ∧ q.1 + q.2 ≤ i + 2
theorem PosOk.adv {i : Nat} {q : Pos} (h : PosOk i q) (c : UInt8) : PosOk (i + 1) (Lx.adv q c) := by
  obtain ⟨h1, h2⟩ := h
  unfold Lx.adv PosOk
  split <;> simp <;> omega
theorem PosOk.advs {i : Nat} {q : Pos} : ∀ (l : List UInt8) {i : Nat} {q : Pos}, PosOk i q → PosOk (i + l.length) (Lx.advs q l)
  | [], _, _, h => h
  | c :: l, i, q, h => by
    have := PosOk.advs (i := i) (q := q) l (h.adv c)
    rw [List.length_cons, show i + (l.length + 1) = i + 1 + l.length by omega]
    exact this
theorem PosOk.le {i : Nat} {q : Pos} (h : PosOk i q) (hi : i ≤ 800000) : q.1 ≤ 900000 ∧ q.2 ≤ 900000 := by
  obtain ⟨h1, h2⟩ := h
  omega
theorem escT_len {l : List UInt8} {x : UInt8} {n : Nat} (h : escT l = some (x, n)) : n ≤ l.length ∧ 1 ≤ n := by
  match l, h with
  | d :: r, h =>
    rw [show escT (d :: r) = (if d = 34 ∨ d = 92 then some (d, 1) else if d = 110 then some (10, 1) else if d = 120 then match r with
      | a :: b :: _ => if 0 ≤ hexv a ∧ 0 ≤ hexv b then some (UInt8.ofNat ((hexv a).toNat * 16 + (hexv b).toNat), 3) else none
      | _ => none
    else none) from rfl] at h
    by_cases h1 : d = 34 ∨ d = 92
    · rw [if_pos h1] at h; cases h; simp
    · rw [if_neg h1] at h
      by_cases h2 : d = 110
      · rw [if_pos h2] at h; cases h; simp
      · rw [if_neg h2] at h
        by_cases h3 : d = 120
        · rw [if_pos h3] at h
          match r, h with
          | a :: b :: r', h =>
            by_cases h4 : 0 ≤ hexv a ∧ 0 ≤ hexv b
            · simp only [if_pos h4] at h; cases h; simp
            · simp only [if_neg h4] at h; cases h
        · rw [if_neg h3] at h; cases h
/-- What str tells. -/
def StrEnd (w : World) (p : Nat) (src : ByteArray) (q0 : Pos) (vo : Value) (R : Except Pos (List UInt8 × List UInt8 × Pos)) (e : Ending) (w' : World) : Prop := Chg [p] w w' ∧ match R with
  | .error x => e = thrown x
  | .ok (b, r, q) => e = .returned (tokV ⟨4, q0.1, q0.2, 0, b⟩) ∧ ∃ i, i ≤ src.size ∧ src.data.toList.drop i = r ∧ PosOk i q ∧ Sc w' p src i q vo
structure SS (w0 : World) (p b1 b2 : Nat) (src : ByteArray) (q0 : Pos) (i : Nat) (q : Pos) (vo v : Value) (bs : List UInt8) (W : World) : Prop where
  chg : Chg [p] w0 W
  sc : Sc W p src i q vo
  h1 : W.heap[b1]? = some (.cells #[.int .i64 q0.1, .int .i64 q0.2] 26 (0, 0))
  h2 : W.heap[b2]? = some (.cells #[.int .i64 0, .int .i64 0, .int .i64 0, .int .i64 0, .string ⟨#[]⟩] 35 (0, 0))
  row : ByteRow W w0.heap.size v bs
  n1 : v.ownBlock ≠ some b1
  n2 : v.ownBlock ≠ some b2
  g1 : w0.heap.size ≤ b1
  g2 : w0.heap.size ≤ b2
  hp : p < w0.heap.size
section
variable {w0 W W' : World} {p b1 b2 i j : Nat} {src : ByteArray} {q0 q q' : Pos} {vo v v' : Value} {bs bs' : List UInt8}
theorem SS.next (h : SS w0 p b1 b2 src q0 i q vo v bs W) (hs : Sc W' p src j q' vo) (hc : Chg [p] W W') : SS w0 p b1 b2 src q0 j q' vo v bs W' := by
  have := h.hp; have := h.g1; have := h.g2
  exact ⟨h.chg.trans hc (Within.refl _ _), hs, (hc.block b1 (lt_of_block h.h1) (by simp; omega)).trans h.h1, (hc.block b2 (lt_of_block h.h2) (by simp; omega)).trans h.h2,
    ⟨h.row.1.chg hc (fun k hk => by have := h.row.2 k hk; simp; omega), h.row.2⟩, h.n1, h.n2, h.g1, h.g2, h.hp⟩
theorem SS.later (h : SS w0 p b1 b2 src q0 i q vo v bs W) (hb : Below W.heap.size W W') : SS w0 p b1 b2 src q0 i q vo v bs W' :=
  ⟨h.chg.thenBelow (hb.mono h.chg.size), h.sc.below hb, (hb.block b1 (lt_of_block h.h1)).trans h.h1, (hb.block b2 (lt_of_block h.h2)).trans h.h2, h.row.below hb, h.n1, h.n2, h.g1, h.g2, h.hp⟩
theorem SS.app (h : SS w0 p b1 b2 src q0 i q vo v bs W) (hr : ByteRow W' w0.heap.size v' bs') (hs : OwnStep W v W' v') : SS w0 p b1 b2 src q0 i q vo v' bs' W' := by
  have hp := h.hp
  have hw := h.chg.size
  have hv : ∀ k, v.ownBlock = some k → w0.heap.size ≤ k := h.row.2
  have np : v.ownBlock ≠ some p := fun e => by have := hv p e; omega
  refine ⟨⟨hs.1.os.trans h.chg.os, hs.1.tape.trans h.chg.tape, hs.1.output.trans h.chg.output, Nat.le_trans hw hs.1.size, fun k hk hn => (hs.1.block k (by omega) (fun hm => ?_)).trans (h.chg.block k hk hn)⟩, (hs.block h.sc.lt np).trans h.sc, (hs.block (lt_of_block h.h1) h.n1).trans h.h1, (hs.block (lt_of_block h.h2) h.n2).trans h.h2, hr, hs.apart (lt_of_block h.h1) h.n1, hs.apart (lt_of_block h.h2) h.n2, h.g1, h.g2, h.hp⟩
  have := hv k (by simpa using hm)
  omega
theorem SS.cells (h : SS w0 p b1 b2 src q0 i q vo v bs W) : W.cell? ⟨b1, 0, none⟩ = some (.int .i64 q0.1) ∧ W.cell? ⟨b1, 1, none⟩ = some (.int .i64 q0.2) ∧ W.cell? ⟨b2, 0, none⟩ = some (.int .i64 0) ∧ W.cell? ⟨b2, 1, none⟩ = some (.int .i64 0) ∧ W.cell? ⟨b2, 2, none⟩ = some (.int .i64 0) ∧ W.cell? ⟨b2, 3, none⟩ = some (.int .i64 0) ∧ W.cell? ⟨b2, 4, none⟩ = some (.string ⟨#[]⟩) ∧ W.cell? ⟨p, 2, none⟩ = some (.int .i64 q.1) ∧ W.cell? ⟨p, 3, none⟩ = some (.int .i64 q.2) :=
  ⟨by simp [World.cell?, h.h1], by simp [World.cell?, h.h1], by simp [World.cell?, h.h2], by simp [World.cell?, h.h2], by simp [World.cell?, h.h2], by simp [World.cell?, h.h2], by simp [World.cell?, h.h2], h.sc.c2, h.sc.c3⟩
theorem SS.fr (h : SS w0 p b1 b2 src q0 i q vo v bs W) (k : Nat) : W.frozen? ⟨b2, k, none⟩ = false := by simp [World.frozen?, h.h2]
end
theorem SS.ret {w0 W : World} {p b1 b2 i : Nat} {src : ByteArray} {q0 q : Pos} {vo v : Value} {bs : List UInt8} (h : SS w0 p b1 b2 src q0 i q vo v bs W) {y0 y1 y2 y3 y4 : Value} :
    (((((W.setCell ⟨b2, 0, none⟩ y0).setCell ⟨b2, 1, none⟩ y1).setCell ⟨b2, 2, none⟩ y2).setCell ⟨b2, 3, none⟩ y3).setCell ⟨b2, 4, none⟩ y4).heap[b2]? = some (.cells #[y0, y1, y2, y3, y4] 35 (0, 0)) ∧
    Chg [p] w0 (((((W.setCell ⟨b2, 0, none⟩ y0).setCell ⟨b2, 1, none⟩ y1).setCell ⟨b2, 2, none⟩ y2).setCell ⟨b2, 3, none⟩ y3).setCell ⟨b2, 4, none⟩ y4) ∧
    Sc (((((W.setCell ⟨b2, 0, none⟩ y0).setCell ⟨b2, 1, none⟩ y1).setCell ⟨b2, 2, none⟩ y2).setCell ⟨b2, 3, none⟩ y3).setCell ⟨b2, 4, none⟩ y4) p src i q vo := by
  have hp := h.hp
  have hg := h.g2
  have hc : Chg [b2] W (((((W.setCell ⟨b2, 0, none⟩ y0).setCell ⟨b2, 1, none⟩ y1).setCell ⟨b2, 2, none⟩ y2).setCell ⟨b2, 3, none⟩ y3).setCell ⟨b2, 4, none⟩ y4) :=
    (((((Chg.refl [b2] W).setCell (p := ⟨b2, 0, none⟩) (.inl (by simp)) _).setCell (p := ⟨b2, 1, none⟩) (.inl (by simp)) _).setCell (p := ⟨b2, 2, none⟩) (.inl (by simp)) _).setCell (p := ⟨b2, 3, none⟩) (.inl (by simp)) _).setCell (p := ⟨b2, 4, none⟩) (.inl (by simp)) _
  refine ⟨by rw [set_block (set_block (set_block (set_block (set_block h.h2))))]; rfl, ?_, h.sc.chg hc (by simp; omega)⟩
  have hs := h.chg.size
  exact ⟨hc.os.trans h.chg.os, hc.tape.trans h.chg.tape, hc.output.trans h.chg.output, Nat.le_trans hs hc.size, fun k hk hn => (hc.block k (by omega) (by simp; omega)).trans (h.chg.block k hk hn)⟩
theorem box2 {W : World} {b : Nat} {y0 y1 : Value} {t : TypeId} (h : W.heap[b]? = some (.cells #[y0, y1] t (0, 0))) : W.cell? ⟨b, 0, none⟩ = some y0 ∧ W.cell? ⟨b, 1, none⟩ = some y1 := ⟨by simp [World.cell?, h], by simp [World.cell?, h]⟩
def StrLoop (w0 : World) (p b1 b2 : Nat) (src : ByteArray) (q0 : Pos) (vo : Value) (R : Except Pos (List UInt8 × List UInt8 × Pos)) (gk : Nat) (s5 : Value) (wr : World) : Prop :=
  ∃ i q bs, i + gk = src.size ∧ PosOk i q ∧ bs.length ≤ i ∧ strT q0 gk (src.data.toList.drop i) q bs = R ∧ (bs = [] → s5 = .slice none 0 0) ∧ SS w0 p b1 b2 src q0 i q vo s5 bs wr
theorem SS.start {w : World} {p i : Nat} {src : ByteArray} {q q0 : Pos} {vo : Value} (h : Sc w p src i q vo) :
    SS w p w.heap.size (w.heap.size + 1) src q0 i q vo (.slice none 0 0) [] ((w.alloc (.cells #[.int .i64 q0.1, .int .i64 q0.2] 26)).alloc (.cells #[.int .i64 0, .int .i64 0, .int .i64 0, .int .i64 0, .string ⟨#[]⟩] 35)) := by
  have hw := WB.start w q0
  have hc : Chg [p] w ((w.alloc (.cells #[.int .i64 q0.1, .int .i64 q0.2] 26)).alloc (.cells #[.int .i64 0, .int .i64 0, .int .i64 0, .int .i64 0, .string ⟨#[]⟩] 35)) := ((Chg.refl _ w).alloc _).alloc _
  exact ⟨hc, h.chg (((Chg.refl [] w).alloc _).alloc _) (by simp), hw.h1, hw.h2, ⟨Row.nil _ _, fun k hk => by simp [Value.ownBlock] at hk⟩, by simp [Value.ownBlock], by simp [Value.ownBlock], Nat.le_refl _, by omega, h.lt⟩
set_option maxRecDepth 100000 in
set_option maxHeartbeats 8000000 in
theorem str_any (w : World) (p i0 : Nat) (src : ByteArray) (q1 q0 : Pos) (vo : Value) (h : Sc w p src i0 q1 vo) (hi0 : i0 ≤ src.size) (hs : src.size ≤ 100000) (hq : PosOk i0 q1) :
    Calls Tryz.prog 24 #[.pointer (some ⟨p, 0, none⟩), posV q0] w (StrEnd w p src q0 vo (strT q0 (src.size - i0) (src.data.toList.drop i0) q1 [])) := by
  have HS := Lib.hid (SS.start (q0 := q0) h)
  have hLEN : src.data.toList.length = src.size := (Lib.size_eq src).symm
  have HL := Lib.hid hLEN
  have HI0 := Lib.hid hi0
  have HQ := Lib.hid hq
  have HSZ := Lib.hid hs
  generalize hR : strT q0 (src.size - i0) (src.data.toList.drop i0) q1 [] = R
  have HR := Lib.hid hR
  unfold posV
  clear h hLEN hi0 hq hs hR
  go_enter Tryz.func24, Tryz.ntmps24
  go_wp2
  go_loopg [5] (src.size - i0) (fun gk s5 wr => StrLoop w p w.heap.size (w.heap.size + 1) src q0 vo R gk s5 wr)
  case atStart => exact ⟨i0, q1, [], by have := HI0.out; omega, HQ.out, by simp, HR.out, fun _ => rfl, HS.out⟩
  case round =>
    obtain ⟨i, q, bs, hig, hq, hbs, hT, hnil, hss⟩ := hrel
    obtain ⟨ao, cap, rfl, hcap, _⟩ := hss.row.form
    have HNL := Lib.hid hnil
    clear hnil
    have HSS := Lib.hid hss
    have HT := Lib.hid hT
    have HQ1 := Lib.hid hq
    have HBS := Lib.hid hbs
    have HM := Lib.hid (more_any wr p i src q vo hss.sc)
    have HIG := Lib.hid hig
    by_cases hlt : i < src.size
    · have d1 : decide (i < src.size) = true := decide_eq_true hlt
      rw [d1] at HM
      obtain ⟨c, r, hcr⟩ : ∃ c r, src.data.toList.drop i = c :: r := by
        cases hd : src.data.toList.drop i with
        | nil =>
          have := congrArg List.length hd
          rw [List.length_drop, HL.out] at this
          simp at this
          omega
        | cons c r => exact ⟨c, r, rfl⟩
      have hrl : r.length + i + 1 = src.size := by
        have := congrArg List.length hcr
        rw [List.length_drop, HL.out, List.length_cons] at this
        omega
      have hdr : src.data.toList.drop (i + 1) = r := by
        rw [← List.drop_drop, hcr]; rfl
      have hc : src[i]'hlt = c := by
        have := Lib.getD_at src i hlt
        have h2 : src.data.toList[i]? = some c := by
          have h3 : (src.data.toList.drop i)[0]? = some c := by rw [hcr]; rfl
          rwa [List.getElem?_drop] at h3
        rw [List.getD_eq_getElem?_getD, h2] at this
        exact this
      have hi8 : i ≤ 100000 := by have := HSZ.out; omega
      obtain ⟨hq1, hq2⟩ := hq.le (by omega)
      have HN : Hid (∀ W, SS w p w.heap.size (w.heap.size + 1) src q0 i q vo (.slice ao bs.length cap) bs W → Calls Tryz.prog 22 #[.pointer (some ⟨p, 0, none⟩)] W fun e w' => e = .returned (.int .u8 c.toNat) ∧ SS w p w.heap.size (w.heap.size + 1) src q0 (i + 1) (adv q c) vo (.slice ao bs.length cap) bs w' ∧ ∀ b x, b < W.heap.size → b ≠ p → W.heap[b]? = some x → w'.heap[b]? = some x) := fun W hW =>
        (next_any W p i src q vo hW.sc hlt c hc (by have := HSZ.out; omega) (by omega) (by omega)).mono fun e w' ⟨he, h3, h4⟩ => ⟨he, hW.next h3 h4, fun b x hb hne hx => (h4.block b hb (by simp [hne])).trans hx⟩
      obtain ⟨g, rfl⟩ : ∃ g, gk = g + 1 := ⟨gk - 1, by omega⟩
      rw [hcr] at hT
      unfold strT at hT
      replace HT := Lib.hid hT
      clear hq hbs hT hss d1 hig HS hcr hc
      by_cases h34 : c = 34
      · subst h34
        by_cases hbig : 4096 < bs.length
        · have hz : R = .error q0 := by have := HT.out; rw [if_pos rfl, if_pos hbig] at this; exact this.symm
          subst hz
          have d4 : (4096 : Int) < (bs.length : Int) := by omega
          clear hbig
          go_wp2_with (first
              | (go_at_call 13; (with_reducible refine HM.out.mono ?_); rintro e w1 ⟨rfl, hb⟩; have hs1 := HSS.out.later hb; obtain ⟨x0, x1, z0, z1, z2, z3, z4, y2, y3⟩ := hs1.cells; have HS1 := Lib.hid hs1; clear hb hs1 HM)
              | (go_at_call 22; refine (HN.out _ (HS1.out.later ((Below.refl _ _).alloc (Nat.le_refl _) _))).mono ?_; rintro e w2 ⟨rfl, hs2, hx2⟩; have hb6 := hx2 w1.heap.size _ (by simp) (by have := HS1.out.sc.lt; omega) (heap_alloc_new w1 _); obtain ⟨j0, j1⟩ := box2 hb6; obtain ⟨x0, x1, z0, z1, z2, z3, z4, _, _⟩ := hs2.cells; have f0 := hs2.fr 0; have f1 := hs2.fr 1; have f2 := hs2.fr 2; have f3 := hs2.fr 3; have f4 := hs2.fr 4; have HS2 := Lib.hid hs2; clear hs2 HN hx2 hb6))
          exact ⟨rfl, HS2.out.chg, rfl⟩
        · have hz : R = .ok (bs, r, adv q 34) := by have := HT.out; rw [if_pos rfl, if_neg hbig] at this; exact this.symm
          subst hz
          have d4 : ¬ (4096 : Int) < (bs.length : Int) := by omega
          have HEND : Hid (∀ w', Chg [p] w w' → Sc w' p src (i + 1) (adv q 34) vo → StrEnd w p src q0 vo (.ok (bs, r, adv q 34)) (.returned (.agg #[.int .i64 4, .int .i64 q0.1, .int .i64 q0.2, .int .i64 0, .string (bytes bs)])) w') := fun w' h1 h2 => ⟨h1, rfl, i + 1, by omega, hdr, HQ1.out.adv 34, h2⟩
          clear hbig
          have HCV : Hid (∀ W, ByteRow W w.heap.size (.slice ao bs.length cap) bs → (convert 42 9 (.slice ao bs.length cap)).run Tryz.prog W = .ok (.string (bytes bs)) W) := fun W h => by
            by_cases he : bs = []
            · subst he
              rw [HNL.out rfl]
              rfl
            · exact run_row_str h he
          go_wp2_with (first
            | (go_at_call 13; (with_reducible refine HM.out.mono ?_); rintro e w1 ⟨rfl, hb⟩; have hs1 := HSS.out.later hb; obtain ⟨x0, x1, z0, z1, z2, z3, z4, y2, y3⟩ := hs1.cells; have HS1 := Lib.hid hs1; clear hb hs1 HM)
            | (go_at_call 22; refine (HN.out _ (HS1.out.later ((Below.refl _ _).alloc (Nat.le_refl _) _))).mono ?_; rintro e w2 ⟨rfl, hs2, hx2⟩; have hb6 := hx2 w1.heap.size _ (by simp) (by have := HS1.out.sc.lt; omega) (heap_alloc_new w1 _); obtain ⟨j0, j1⟩ := box2 hb6; obtain ⟨x0, x1, z0, z1, z2, z3, z4, _, _⟩ := hs2.cells; have f0 := hs2.fr 0; have f1 := hs2.fr 1; have f2 := hs2.fr 2; have f3 := hs2.fr 3; have f4 := hs2.fr 4; have HS2 := Lib.hid hs2; clear hs2 HN hx2 hb6; have hcv := HCV.out _ HS2.out.row))
          obtain ⟨hz, hch, hsc⟩ := HS2.out.ret (y0 := .int .i64 4) (y1 := .int .i64 q0.1) (y2 := .int .i64 q0.2) (y3 := .int .i64 0) (y4 := .string (bytes bs))
          generalize (((((World.setCell _ _ _).setCell _ _).setCell _ _).setCell _ _).setCell _ _) = wz at hz hch hsc ⊢
          obtain ⟨k0, k1, k2, k3, k4⟩ := box5 hz
          refine bodyPost_ret (v := .agg #[.int .i64 4, .int .i64 q0.1, .int .i64 q0.2, .int .i64 0, .string (bytes bs)]) (by simp [results, Tryz.results24, go_sem, k0, k1, k2, k3, k4]) rfl (HEND.out _ hch hsc)
      · skip
        have q1' : ((c.toNat : Int) == 34) = false := ne_lit h34 (by rfl)
        by_cases h32 : c.toNat < 32
        · have hz : R = .error q := by have := HT.out; rw [if_neg h34, if_pos h32] at this; exact this.symm
          subst hz
          have d5 : (c.toNat : Int) < 32 := by omega
          clear h32
          go_wp2_with (first
              | (go_at_call 13; (with_reducible refine HM.out.mono ?_); rintro e w1 ⟨rfl, hb⟩; have hs1 := HSS.out.later hb; obtain ⟨x0, x1, z0, z1, z2, z3, z4, y2, y3⟩ := hs1.cells; have HS1 := Lib.hid hs1; clear hb hs1 HM)
              | (go_at_call 22; refine (HN.out _ (HS1.out.later ((Below.refl _ _).alloc (Nat.le_refl _) _))).mono ?_; rintro e w2 ⟨rfl, hs2, hx2⟩; have hb6 := hx2 w1.heap.size _ (by simp) (by have := HS1.out.sc.lt; omega) (heap_alloc_new w1 _); obtain ⟨j0, j1⟩ := box2 hb6; obtain ⟨x0, x1, z0, z1, z2, z3, z4, _, _⟩ := hs2.cells; have f0 := hs2.fr 0; have f1 := hs2.fr 1; have f2 := hs2.fr 2; have f3 := hs2.fr 3; have f4 := hs2.fr 4; have HS2 := Lib.hid hs2; clear hs2 HN hx2 hb6))
          exact ⟨rfl, HS2.out.chg, rfl⟩
        · have d5 : ¬ (c.toNat : Int) < 32 := by omega
          by_cases h92 : c = 92
          · subst h92
            have q2' : ((92 : Int) != 92) = false := rfl
            have hz := HT.out
            rw [if_neg h34, if_neg h32, if_neg (by simp)] at hz
            have HM2 : Hid (∀ W, Sc W p src (i + 1) (adv q 92) vo → Calls Tryz.prog 13 #[.pointer (some ⟨p, 0, none⟩)] W fun e w' => e = .returned (.bool (decide (i + 1 < src.size))) ∧ Below W.heap.size W w') := fun W h => more_any W p (i + 1) src (adv q 92) vo h
            by_cases hr0 : r = []
            · have hz2 : R = .error q0 := by rw [if_pos hr0] at hz; exact hz.symm
              have d6 : decide (i + 1 < src.size) = false := decide_eq_false (by rw [hr0] at hrl; simp at hrl; omega)
              rw [d6] at HM2
              have HR0 := Lib.hid hr0
              subst hz2
              clear hz d6 hr0
              go_wp2_with (first
                | (go_at_call 13; (with_reducible refine HM.out.mono ?_); rintro e w1 ⟨rfl, hb⟩; have hs1 := HSS.out.later hb; obtain ⟨x0, x1, z0, z1, z2, z3, z4, y2, y3⟩ := hs1.cells; have HS1 := Lib.hid hs1; clear hb hs1 HM)
                | (go_at_call 22; refine (HN.out _ (HS1.out.later ((Below.refl _ _).alloc (Nat.le_refl _) _))).mono ?_; rintro e w2 ⟨rfl, hs2, hx2⟩; have hb6 := hx2 w1.heap.size _ (by simp) (by have := HS1.out.sc.lt; omega) (heap_alloc_new w1 _); obtain ⟨j0, j1⟩ := box2 hb6; obtain ⟨x0, x1, z0, z1, z2, z3, z4, _, _⟩ := hs2.cells; have f0 := hs2.fr 0; have f1 := hs2.fr 1; have f2 := hs2.fr 2; have f3 := hs2.fr 3; have f4 := hs2.fr 4; have HS2 := Lib.hid hs2; clear hs2 HN hx2 hb6)
                | (go_at_call 13; (with_reducible refine (HM2.out _ HS2.out.sc).mono ?_); rintro e w3 ⟨rfl, hb⟩; have hs3 := HS2.out.later hb; have HS3 := Lib.hid hs3; clear hb hs3 HM2))
              go_roundg g
              case measure => omega
              case rel => exact ⟨i + 1, adv q 92, bs, by have := HIG.out; omega, HQ1.out.adv 92, by have := HBS.out; omega, by rw [hdr, HR0.out]; unfold strT; rfl, HNL.out, HS3.out⟩
            · rw [if_neg hr0] at hz
              have d6 : decide (i + 1 < src.size) = true := decide_eq_true (by cases r with | nil => exact absurd rfl hr0 | cons => simp at hrl; omega)
              rw [d6] at HM2
              have HZ := Lib.hid hz
              obtain ⟨d, r', hdr'⟩ : ∃ d r', r = d :: r' := by cases r with | nil => exact absurd rfl hr0 | cons d r' => exact ⟨d, r', rfl⟩
              have hqa := (HQ1.out.adv 92).le (by omega)
              have HE : Hid (∀ W, SS w p w.heap.size (w.heap.size + 1) src q0 (i + 1) (adv q 92) vo (.slice ao bs.length cap) bs W → Calls Tryz.prog 28 #[.pointer (some ⟨p, 0, none⟩)] W (EscEnd W p src (i + 1) (adv q 92) vo r)) := fun W hW => by
                rw [hdr']
                exact escape_any W p (i + 1) src (adv q 92) vo hW.sc d r' (by rw [hdr, hdr']) (by have := HSZ.out; omega) hqa.1 hqa.2
              clear hz d6 hr0 hdr'
              cases hes : escT r with
              | none =>
                have hz2 : R = .error (adv q 92) := by have := HZ.out; rw [hes] at this; exact this.symm
                subst hz2
                have HE2 : Hid (∀ W, SS w p w.heap.size (w.heap.size + 1) src q0 (i + 1) (adv q 92) vo (.slice ao bs.length cap) bs W → Calls Tryz.prog 28 #[.pointer (some ⟨p, 0, none⟩)] W fun e w' => e = thrown (adv q 92) ∧ Chg [p] W w') := fun W hW => (HE.out W hW).mono fun e w' h => by unfold EscEnd at h; rw [hes] at h; exact h
                clear hes HE HZ HT
                unfold thrown at HE2
                go_wp2_with (first
                  | (go_at_call 13; (with_reducible refine HM.out.mono ?_); rintro e w1 ⟨rfl, hb⟩; have hs1 := HSS.out.later hb; obtain ⟨x0, x1, z0, z1, z2, z3, z4, y2, y3⟩ := hs1.cells; have HS1 := Lib.hid hs1; clear hb hs1 HM)
                  | (go_at_call 22; refine (HN.out _ (HS1.out.later ((Below.refl _ _).alloc (Nat.le_refl _) _))).mono ?_; rintro e w2 ⟨rfl, hs2, hx2⟩; have hb6 := hx2 w1.heap.size _ (by simp) (by have := HS1.out.sc.lt; omega) (heap_alloc_new w1 _); obtain ⟨j0, j1⟩ := box2 hb6; obtain ⟨x0, x1, z0, z1, z2, z3, z4, _, _⟩ := hs2.cells; have f0 := hs2.fr 0; have f1 := hs2.fr 1; have f2 := hs2.fr 2; have f3 := hs2.fr 3; have f4 := hs2.fr 4; have HS2 := Lib.hid hs2; clear hs2 HN hx2 hb6)
                  | (go_at_call 13; (with_reducible refine (HM2.out _ HS2.out.sc).mono ?_); rintro e w3 ⟨rfl, hb⟩; have hs3 := HS2.out.later hb; have HS3 := Lib.hid hs3; clear hb hs3 HM2)
                  | (go_at_call 28; refine (HE2.out _ HS3.out).mono ?_; rintro e w4 ⟨rfl, hc4⟩; have HC4 := Lib.hid (HS3.out.chg.trans hc4 (Within.refl _ _)); clear hc4))
                exact ⟨rfl, HC4.out, rfl⟩
              | some x =>
                obtain ⟨x, n⟩ := x
                have hz2 := HZ.out
                rw [hes] at hz2
                have HT2 := Lib.hid hz2
                have hn : n ≤ r.length ∧ 1 ≤ n := escT_len hes
                have HE2 : Hid (∀ W, SS w p w.heap.size (w.heap.size + 1) src q0 (i + 1) (adv q 92) vo (.slice ao bs.length cap) bs W → Calls Tryz.prog 28 #[.pointer (some ⟨p, 0, none⟩)] W fun e w' => e = .returned (.int .u8 x.toNat) ∧ SS w p w.heap.size (w.heap.size + 1) src q0 (i + 1 + n) (advs (adv q 92) (r.take n)) vo (.slice ao bs.length cap) bs w') := fun W hW => (HE.out W hW).mono fun e w' h => by unfold EscEnd at h; rw [hes] at h; exact ⟨h.1, hW.next h.2.1 h.2.2⟩
                clear hes HE HZ HT hz2
                go_wp2_with (first
                  | (go_at_call 13; (with_reducible refine HM.out.mono ?_); rintro e w1 ⟨rfl, hb⟩; have hs1 := HSS.out.later hb; obtain ⟨x0, x1, z0, z1, z2, z3, z4, y2, y3⟩ := hs1.cells; have HS1 := Lib.hid hs1; clear hb hs1 HM)
                  | (go_at_call 22; refine (HN.out _ (HS1.out.later ((Below.refl _ _).alloc (Nat.le_refl _) _))).mono ?_; rintro e w2 ⟨rfl, hs2, hx2⟩; have hb6 := hx2 w1.heap.size _ (by simp) (by have := HS1.out.sc.lt; omega) (heap_alloc_new w1 _); obtain ⟨j0, j1⟩ := box2 hb6; obtain ⟨x0, x1, z0, z1, z2, z3, z4, _, _⟩ := hs2.cells; have f0 := hs2.fr 0; have f1 := hs2.fr 1; have f2 := hs2.fr 2; have f3 := hs2.fr 3; have f4 := hs2.fr 4; have HS2 := Lib.hid hs2; clear hs2 HN hx2 hb6)
                  | (go_at_call 13; (with_reducible refine (HM2.out _ HS2.out.sc).mono ?_); rintro e w3 ⟨rfl, hb⟩; have hs3 := HS2.out.later hb; have HS3 := Lib.hid hs3; clear hb hs3 HM2)
                  | (go_at_call 28; refine (HE2.out _ HS3.out).mono ?_; rintro e w4 ⟨rfl, hs4⟩; have HS4 := Lib.hid hs4; clear hs4 HE2)
                  | (at_builtin; refine wpList_appb (w := w4.alloc (.cells #[.int .u8 x.toNat] 5)) rfl _ _ rfl (v := .slice ao bs.length cap) (vx := .slice (some ⟨w4.heap.size, 0, none⟩) 1 1) rfl (HS4.out.row.below ((Below.refl _ _).alloc (Nat.le_refl _) _)) rfl (new_row w4 [x] #[.int .u8 x.toNat] (by simp [bvals]) (by simp)) (by simp) (by have := HS4.out.chg.size; simp; omega) (by have := HBS.out; simp; omega) ?_; intro v' w5 hr5 hs5; have HS5 := Lib.hid ((HS4.out.later ((Below.refl _ _).alloc (Nat.le_refl _) _)).app hr5 hs5); clear hr5 hs5))
                go_roundg (g - n)
                case measure => have := hn.2; have := HIG.out; omega
                case rel =>
                  have := HIG.out
                  refine ⟨i + 1 + n, advs (adv q 92) (r.take n), bs ++ [x], by omega, ?_, by have := HBS.out; simp; omega, ?_, by simp, HS5.out⟩
                  · have h := PosOk.advs (i := i + 1) (q := adv q 92) (r.take n) (HQ1.out.adv 92)
                    rwa [List.length_take, Nat.min_eq_left hn.1] at h
                  · have e : src.data.toList.drop (i + 1 + n) = r.drop n := by rw [← hdr, List.drop_drop]
                    rw [e, strT_fuel q0 (g - n) g _ _ _ (by rw [List.length_drop]; omega) (by rw [List.length_drop]; omega)]
                    exact HT2.out
          · have q2' : ((c.toNat : Int) != 92) = true := by rw [bne, ne_lit h92 (by rfl)]; rfl
            have hz := HT.out
            rw [if_neg h34, if_neg h32, if_pos h92] at hz
            have HT2 := Lib.hid hz
            clear hz HT
            go_wp2_with (first
              | (go_at_call 13; (with_reducible refine HM.out.mono ?_); rintro e w1 ⟨rfl, hb⟩; have hs1 := HSS.out.later hb; obtain ⟨x0, x1, z0, z1, z2, z3, z4, y2, y3⟩ := hs1.cells; have HS1 := Lib.hid hs1; clear hb hs1 HM)
              | (go_at_call 22; refine (HN.out _ (HS1.out.later ((Below.refl _ _).alloc (Nat.le_refl _) _))).mono ?_; rintro e w2 ⟨rfl, hs2, hx2⟩; have hb6 := hx2 w1.heap.size _ (by simp) (by have := HS1.out.sc.lt; omega) (heap_alloc_new w1 _); obtain ⟨j0, j1⟩ := box2 hb6; obtain ⟨x0, x1, z0, z1, z2, z3, z4, _, _⟩ := hs2.cells; have f0 := hs2.fr 0; have f1 := hs2.fr 1; have f2 := hs2.fr 2; have f3 := hs2.fr 3; have f4 := hs2.fr 4; have HS2 := Lib.hid hs2; clear hs2 HN hx2 hb6)
              | (at_builtin; refine wpList_appb (w := w2.alloc (.cells #[.int .u8 c.toNat] 5)) rfl _ _ rfl (v := .slice ao bs.length cap) (vx := .slice (some ⟨w2.heap.size, 0, none⟩) 1 1) rfl (HS2.out.row.below ((Below.refl _ _).alloc (Nat.le_refl _) _)) rfl (new_row w2 [c] #[.int .u8 c.toNat] (by simp [bvals]) (by simp)) (by simp) (by have := HS2.out.chg.size; simp; omega) (by have := HBS.out; simp; omega) ?_; intro v' w5 hr5 hs5; have HS5 := Lib.hid ((HS2.out.later ((Below.refl _ _).alloc (Nat.le_refl _) _)).app hr5 hs5); clear hr5 hs5))
            go_roundg g
            case measure => omega
            case rel => exact ⟨i + 1, adv q c, bs ++ [c], by have := HIG.out; omega, HQ1.out.adv c, by have := HBS.out; simp; omega, by rw [hdr]; exact HT2.out, by simp, HS5.out⟩
    · have d1 : decide (i < src.size) = false := decide_eq_false hlt
      rw [d1] at HM
      have hz : R = .error q0 := by
        have := HT.out
        rw [List.drop_eq_nil_of_le (by rw [HL.out]; omega)] at this
        unfold strT at this
        exact this.symm
      subst hz
      clear hq hbs hT hss hlt d1 hig HS
      go_wp2_with (go_at_call 13; refine HM.out.mono ?_; rintro e w1 ⟨rfl, hb⟩; have hs1 := HSS.out.later hb; obtain ⟨x0, x1, _⟩ := hs1.cells; have HS1 := Lib.hid hs1; clear hb hs1)
      exact ⟨rfl, HS1.out.chg, rfl⟩
end Go.Proofs.YtlailomhgipppaaGreatDoor
