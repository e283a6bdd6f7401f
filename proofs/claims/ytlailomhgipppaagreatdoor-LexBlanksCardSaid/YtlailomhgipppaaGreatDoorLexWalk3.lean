/- Layer 10: what stands behind a backslash. -/
import Derived.Test.YtlailomhgipppaaGreatDoorLexWalk2
namespace Go.Proofs.YtlailomhgipppaaGreatDoor
open Go.RowKit Lx
set_option linter.unusedVariables false
set_option linter.unusedSimpArgs false

theorem qs2 {P : Program} {f : FuncId} {args : Array Value} {w : World} {a n : Nat} {v : Value}
    (h : Calls P f args (w.drewN (a + n)) fun e w' => e = .returned v ∧ w' = w.drewN (a + n)) :
    Calls P f args (w.drewN (a + n)) fun e w'' => e = .returned v ∧ ∃ m, w'' = w.drewN (a + m) :=
  h.mono fun _ _ ⟨he, hm⟩ => ⟨he, n, hm⟩
def EscEnd (w : World) (p : Nat) (src : ByteArray) (i : Nat) (q : Pos) (vo : Value) (rest : List UInt8) (e : Ending) (w' : World) : Prop := match escT rest with
  | none => e = thrown q ∧ Chg [p] w w'
  | some (x, n) => e = .returned (.int .u8 x.toNat) ∧ Sc w' p src (i + n) (advs q (rest.take n)) vo ∧ Chg [p] w w'
theorem hexes_at (c : UInt8) : Lib.indexByte [48, 49, 50, 51, 52, 53, 54, 55, 56, 57, 97, 98, 99, 100, 101, 102] c = hexv c := by
  have : ∀ k : Fin 256, Lib.indexByte [48, 49, 50, 51, 52, 53, 54, 55, 56, 57, 97, 98, 99, 100, 101, 102] (UInt8.ofNat k.val) = hexv (UInt8.ofNat k.val) := by decide +kernel
  have h := this ⟨c.toNat, c.toNat_lt⟩
  simpa using h
theorem hexes_any (c : UInt8) (w : World) : Calls Tryz.prog 23 #[.string ⟨#[48, 49, 50, 51, 52, 53, 54, 55, 56, 57, 97, 98, 99, 100, 101, 102]⟩, .int .u8 c.toNat] w fun e w' => e = .returned (.int .i64 (hexv c)) ∧ w' = w := by
  have h := Tryz.strings_IndexByte ⟨#[48, 49, 50, 51, 52, 53, 54, 55, 56, 57, 97, 98, 99, 100, 101, 102]⟩ (c.toNat : Int) w
  have e : ((c.toNat : Int).toNat).toUInt8 = c := by simp
  rw [e, show (⟨#[48, 49, 50, 51, 52, 53, 54, 55, 56, 57, 97, 98, 99, 100, 101, 102]⟩ : ByteArray).data.toList = [48, 49, 50, 51, 52, 53, 54, 55, 56, 57, 97, 98, 99, 100, 101, 102] from rfl, hexes_at] at h
  exact h
theorem hex_or {a b : Int} (ha : 0 ≤ a ∧ a < 16) (hb : 0 ≤ b ∧ b < 16) : bits .or .i64 (a * 16) b % 256 = ((a.toNat * 16 + b.toNat : Nat) : Int) := by
  have h : ∀ x y : Fin 16, bits .or .i64 ((x.val : Int) * 16) (y.val : Int) % 256 = ((x.val * 16 + y.val : Nat) : Int) := by decide +kernel
  have h1 := h ⟨a.toNat, by omega⟩ ⟨b.toNat, by omega⟩
  have e1 : ((a.toNat : Nat) : Int) = a := by omega
  have e2 : ((b.toNat : Nat) : Int) = b := by omega
  simp only [e1, e2] at h1
  exact h1
theorem hexv_lt (c : UInt8) : -1 ≤ hexv c ∧ hexv c < 16 := by
  have h1 := c.toNat_lt
  unfold hexv
  split
  · omega
  · split <;> omega
theorem ne_lit {d c : UInt8} {n : Int} (h : d ≠ c) (hn : (c.toNat : Int) = n) : ((d.toNat : Int) == n) = false := by
  rw [beq_eq_false_iff_ne]
  intro e
  exact h (UInt8.toNat_inj.1 (by omega))
/-- A box beside the scanner. -/
structure SB (w0 : World) (p b : Nat) (src : ByteArray) (q0 : Pos) (i : Nat) (q : Pos) (vo : Value) (W : World) : Prop where
  chg : Chg [p] w0 W
  sc : Sc W p src i q vo
  box : W.heap[b]? = some (.cells #[.int .i64 q0.1, .int .i64 q0.2] 26 (0, 0))
  ne : b ≠ p
  new : w0.heap.size ≤ b
theorem SB.start {w : World} {p i : Nat} {src : ByteArray} {q : Pos} {vo : Value} (h : Sc w p src i q vo) : SB w p w.heap.size src q i q vo (w.alloc (.cells #[.int .i64 q.1, .int .i64 q.2] 26)) :=
  ⟨(Chg.refl _ _).alloc _, h.chg ((Chg.refl [] w).alloc _) (by simp), heap_alloc_new w _, by have := h.lt; omega, Nat.le_refl _⟩
section
variable {w0 W W' : World} {p b i j : Nat} {src : ByteArray} {q0 q q' : Pos} {vo : Value}
theorem SB.next (h : SB w0 p b src q0 i q vo W) (hs : Sc W' p src j q' vo) (hc : Chg [p] W W') : SB w0 p b src q0 j q' vo W' :=
  ⟨h.chg.trans hc (Within.refl _ _), hs, (hc.block b (lt_of_block h.box) (by simp [h.ne])).trans h.box, h.ne, h.new⟩
theorem SB.later (h : SB w0 p b src q0 i q vo W) (hb : Below W.heap.size W W') : SB w0 p b src q0 i q vo W' :=
  ⟨h.chg.thenBelow (hb.mono h.chg.size), h.sc.below hb, (hb.block b (lt_of_block h.box)).trans h.box, h.ne, h.new⟩
theorem SB.cells (h : SB w0 p b src q0 i q vo W) : W.cell? ⟨b, 0, none⟩ = some (.int .i64 q0.1) ∧ W.cell? ⟨b, 1, none⟩ = some (.int .i64 q0.2) ∧ W.cell? ⟨p, 0, none⟩ = some (.string src) ∧ W.cell? ⟨p, 1, none⟩ = some (.int .i64 i) ∧ W.cell? ⟨p, 2, none⟩ = some (.int .i64 q.1) ∧ W.cell? ⟨p, 3, none⟩ = some (.int .i64 q.2) :=
  ⟨by simp [World.cell?, h.box], by simp [World.cell?, h.box], h.sc.c0, h.sc.c1, h.sc.c2, h.sc.c3⟩
end
set_option maxRecDepth 100000 in
set_option maxHeartbeats 4000000 in
theorem escape_any (w : World) (p i : Nat) (src : ByteArray) (q : Pos) (vo : Value) (h : Sc w p src i q vo) (d : UInt8) (r : List UInt8) (hr : src.data.toList.drop i = d :: r) (hs : src.size ≤ 1000000) (h1 : q.1 ≤ 900000) (h2 : q.2 ≤ 900000) :
    Calls Tryz.prog 28 #[.pointer (some ⟨p, 0, none⟩)] w (EscEnd w p src i q vo (d :: r)) := by
  have c2 := h.c2
  have c3 := h.c3
  have HB := Lib.hid (SB.start h)
  have hlen : src.size = i + 1 + r.length := by
    have := congrArg List.length hr
    rw [List.length_drop, List.length_cons, ← Lib.size_eq] at this
    omega
  have hat : ∀ (k : Nat) (hk : i + k < src.size) (c : UInt8), (d :: r)[k]? = some c → src[i + k]'hk = c := fun k hk c hc => by
    have := Lib.getD_at src (i + k) hk
    rw [← hr, List.getElem?_drop] at hc
    rw [List.getD_eq_getElem?_getD, hc] at this
    exact this
  have hd := hat 0 (by omega) d rfl
  have HN : Hid (∀ W, SB w p w.heap.size src q i q vo W → Calls Tryz.prog 22 #[.pointer (some ⟨p, 0, none⟩)] W fun e w' => e = .returned (.int .u8 d.toNat) ∧ SB w p w.heap.size src q (i + 1) (adv q d) vo w') := fun W hW =>
    (next_any W p i src q vo hW.sc (by omega) d hd hs (by omega) (by omega)).mono fun e w' ⟨he, h3, h4⟩ => ⟨he, hW.next h3 h4⟩
  clear hd
  by_cases hq : d = 34
  · subst hq
    have he : ∀ e w', EscEnd w p src i q vo (34 :: r) e w' ↔ (e = .returned (.int .u8 34) ∧ Sc w' p src (i + 1) (adv q 34) vo ∧ Chg [p] w w') := fun e w' => Iff.rfl
    clear hat hlen h
    go_enter Tryz.func28, Tryz.ntmps28
    go_wp2_with (go_at_call 22; refine (HN.out _ HB.out).mono ?_; rintro e w1 ⟨rfl, hb⟩; have HB1 := Lib.hid hb; clear hb HN)
    go_ret
    exact (he _ _).2 ⟨rfl, HB1.out.sc, HB1.out.chg⟩
  by_cases hbs : d = 92
  · subst hbs
    have he : ∀ e w', EscEnd w p src i q vo (92 :: r) e w' ↔ (e = .returned (.int .u8 92) ∧ Sc w' p src (i + 1) (adv q 92) vo ∧ Chg [p] w w') := fun e w' => Iff.rfl
    clear hat hlen h
    go_enter Tryz.func28, Tryz.ntmps28
    go_wp2_with (go_at_call 22; refine (HN.out _ HB.out).mono ?_; rintro e w1 ⟨rfl, hb⟩; have HB1 := Lib.hid hb; clear hb HN)
    go_ret
    exact (he _ _).2 ⟨rfl, HB1.out.sc, HB1.out.chg⟩
  by_cases hn : d = 110
  · subst hn
    have he : ∀ e w', EscEnd w p src i q vo (110 :: r) e w' ↔ (e = .returned (.int .u8 10) ∧ Sc w' p src (i + 1) (adv q 110) vo ∧ Chg [p] w w') := fun e w' => Iff.rfl
    clear hat hlen h
    go_enter Tryz.func28, Tryz.ntmps28
    go_wp2_with (go_at_call 22; refine (HN.out _ HB.out).mono ?_; rintro e w1 ⟨rfl, hb⟩; have HB1 := Lib.hid hb; clear hb HN)
    go_ret
    exact (he _ _).2 ⟨rfl, HB1.out.sc, HB1.out.chg⟩
  have q1 : ((d.toNat : Int) == 34) = false := ne_lit hq (by rfl)
  have q2 : ((d.toNat : Int) == 92) = false := ne_lit hbs (by rfl)
  have q3 : ((d.toNat : Int) == 110) = false := ne_lit hn (by rfl)
  by_cases hx : d = 120
  · subst hx
    have hthr : ∀ e w', escT (120 :: r) = none → e = thrown q ∧ Chg [p] w w' → EscEnd w p src i q vo (120 :: r) e w' := fun e w' h0 h1 => by unfold EscEnd; rw [h0]; exact h1
    rcases r with _ | ⟨a, _ | ⟨b, r'⟩⟩
    · skip
      have hE := hthr
      unfold thrown posV at hE
      have hsz : (src.size : Int) = (i : Int) + 1 := by simp at hlen; omega
      have hi : (i : Int) ≤ 1000000 := by omega
      have g1 : ¬ ((i : Int) + 1 + 2 ≤ (i : Int) + 1) := by omega
      have g2 : decide ((i : Int) + 1 + 2 ≤ (src.size : Int)) = false := decide_eq_false (by omega)
      clear hat hlen h hthr
      go_enter Tryz.func28, Tryz.ntmps28
      go_wp2_with (go_at_call 22; refine (HN.out _ HB.out).mono ?_; rintro e w1 ⟨rfl, hb⟩; have HB1 := Lib.hid hb; obtain ⟨x0, x1, y0, y1, y2, y3⟩ := hb.cells; clear hb HN)
      go_quiet (fail)
      go_wp2
      exact ⟨rfl, hE _ _ rfl ⟨rfl, HB1.out.chg.drewN _⟩⟩
    · skip
      have hE := hthr
      unfold thrown posV at hE
      have hsz : (src.size : Int) = (i : Int) + 2 := by simp at hlen; omega
      have hi : (i : Int) ≤ 1000000 := by omega
      have g1 : ¬ ((i : Int) + 1 + 2 ≤ (i : Int) + 2) := by omega
      have g2 : decide ((i : Int) + 1 + 2 ≤ (src.size : Int)) = false := decide_eq_false (by omega)
      clear hat hlen h hthr
      go_enter Tryz.func28, Tryz.ntmps28
      go_wp2_with (go_at_call 22; refine (HN.out _ HB.out).mono ?_; rintro e w1 ⟨rfl, hb⟩; have HB1 := Lib.hid hb; obtain ⟨x0, x1, y0, y1, y2, y3⟩ := hb.cells; clear hb HN)
      go_quiet (fail)
      go_wp2
      exact ⟨rfl, hE _ _ rfl ⟨rfl, HB1.out.chg.drewN _⟩⟩
    · skip
      simp only [List.length_cons] at hlen
      have ha := hat 1 (by omega) a rfl
      have hb := hat 2 (by omega) b rfl
      have hi : i ≤ 1000000 := by omega
      obtain ⟨j, hj⟩ : ∃ j, j = i + 1 := ⟨_, rfl⟩
      have HN2 : Hid (∀ W, SB w p w.heap.size src q j (adv q 120) vo W → Calls Tryz.prog 22 #[.pointer (some ⟨p, 0, none⟩)] W fun e w' => e = .returned (.int .u8 a.toNat) ∧ SB w p w.heap.size src q (j + 1) (adv (adv q 120) a) vo w') := fun W hW => by
        subst hj
        exact (next_any W p (i + 1) src (adv q 120) vo hW.sc (by omega) a ha hs (by simp [adv]; omega) (by simp [adv]; omega)).mono fun e w' ⟨he, h3, h4⟩ => ⟨he, hW.next h3 h4⟩
      have hadv : ∀ c : UInt8, (adv (adv q 120) c).1 ≤ 1000000 ∧ (adv (adv q 120) c).2 ≤ 1000000 := fun c => by
        simp only [adv]
        split <;> simp <;> omega
      have HN3 : Hid (∀ W, SB w p w.heap.size src q (j + 1) (adv (adv q 120) a) vo W → Calls Tryz.prog 22 #[.pointer (some ⟨p, 0, none⟩)] W fun e w' => e = .returned (.int .u8 b.toNat) ∧ SB w p w.heap.size src q (j + 1 + 1) (adv (adv (adv q 120) a) b) vo w') := fun W hW => by
        subst hj
        exact (next_any W p (i + 1 + 1) src (adv (adv q 120) a) vo hW.sc (by omega) b hb hs (hadv a).1 (hadv a).2).mono fun e w' ⟨he, h3, h4⟩ => ⟨he, hW.next h3 h4⟩
      have HXA := Lib.hid (fun W => hexes_any a W)
      have HXB := Lib.hid (fun W => hexes_any b W)
      have hab := hexv_lt a
      have hbb := hexv_lt b
      have hOK : 0 ≤ hexv a → 0 ≤ hexv b → ∀ e w', e = .returned (.int .u8 (UInt8.ofNat ((hexv a).toNat * 16 + (hexv b).toNat)).toNat) ∧ Sc w' p src (j + 1 + 1) (adv (adv (adv q 120) a) b) vo ∧ Chg [p] w w' → EscEnd w p src i q vo (120 :: a :: b :: r') e w' := fun h3 h4 e w' h5 => by
        unfold EscEnd
        rw [show escT (120 :: a :: b :: r') = some (UInt8.ofNat ((hexv a).toNat * 16 + (hexv b).toNat), 3) by simp [escT, h3, h4]]
        subst hj
        exact h5
      have hNO : ¬ (0 ≤ hexv a ∧ 0 ≤ hexv b) → ∀ e w', e = thrown q ∧ Chg [p] w w' → EscEnd w p src i q vo (120 :: a :: b :: r') e w' := fun h3 e w' h5 => hthr e w' (by simp [escT]; intro h; omega) h5
      have hsz : (src.size : Int) = (j : Int) + 2 + (r'.length : Int) := by omega
      have hj2 : (j : Int) ≤ 1000001 := by omega
      have g3 : (j : Int) + 2 ≤ (src.size : Int) := by omega
      have gj0 : j < src.size := by omega
      have gk0 : (j : Int) < (src.size : Int) := by omega
      have gk1 : (j : Int) + 1 < (src.size : Int) := by omega
      have gk2 : (0 : Int) ≤ (j : Int) := by omega
      have gk3 : (0 : Int) ≤ (j : Int) + 1 := by omega
      have gj1 : j + 1 < src.size := by omega
      have ga : src[j]'gj0 = a := by subst hj; exact ha
      have gb : src[j + 1]'gj1 = b := by subst hj; exact hb
      rw [← hj] at HN
      generalize hexv a = va at HXA hab hOK hNO
      generalize hexv b = vb at HXB hbb hOK hNO
      clear hat hlen h hthr ha hb hi hj hsz hr
      by_cases h3 : 0 ≤ va
      · by_cases h4 : 0 ≤ vb
        · have hE := hOK h3 h4
          have d3 : decide (0 ≤ va) = true := decide_eq_true h3
          have d4 : decide (0 ≤ vb) = true := decide_eq_true h4
          have hor : (UInt8.ofNat (va.toNat * 16 + vb.toNat)).toNat = va.toNat * 16 + vb.toNat := by rw [UInt8.toNat_ofNat']; omega
          rw [hor] at hE
          have HO := Lib.hid (hex_or (a := va) (b := vb) ⟨h3, hab.2⟩ ⟨h4, hbb.2⟩)
          go_enter Tryz.func28, Tryz.ntmps28
          go_wp2_with (go_at_call 22; refine (HN.out _ HB.out).mono ?_; rintro e w1 ⟨rfl, hb⟩; have HB1 := Lib.hid hb; obtain ⟨x0, x1, y0, y1, y2, y3⟩ := hb.cells; clear hb HN)
          go_quiet (fail)
          go_wp2_with (fail)
          go_quiet ((first | (go_at_call 23; exact qs2 (HXA.out _)) | (go_at_call 23; exact qs2 (HXB.out _))))
          go_wp2_with (first
            | (go_at_call 22; (with_reducible refine (HN2.out _ (HB1.out.later (below_drewN (Below.refl _ _) _))).mono ?_); rintro e w2 ⟨rfl, hb⟩; have HB2 := Lib.hid hb; clear hb HN2)
            | (go_at_call 22; (with_reducible refine (HN3.out _ HB2.out).mono ?_); rintro e w3 ⟨rfl, hb⟩; have HB3 := Lib.hid hb; clear hb HN3))
          go_ret
          exact hE _ _ ⟨congrArg (fun x => Ending.returned (.int .u8 x)) HO.out, HB3.out.sc, HB3.out.chg⟩
        · have hE := hNO (fun h => h4 h.2)
          unfold thrown posV at hE
          have d3 : decide (0 ≤ va) = true := decide_eq_true h3
          have d4 : decide (0 ≤ vb) = false := decide_eq_false h4
          go_enter Tryz.func28, Tryz.ntmps28
          go_wp2_with (go_at_call 22; refine (HN.out _ HB.out).mono ?_; rintro e w1 ⟨rfl, hb⟩; have HB1 := Lib.hid hb; obtain ⟨x0, x1, y0, y1, y2, y3⟩ := hb.cells; clear hb HN)
          go_quiet (fail)
          go_wp2_with (fail)
          go_quiet ((first | (go_at_call 23; exact qs2 (HXA.out _)) | (go_at_call 23; exact qs2 (HXB.out _))))
          go_wp2
          exact ⟨rfl, hE _ _ ⟨rfl, HB1.out.chg.drewN _⟩⟩
      · have hE := hNO (fun h => h3 h.1)
        unfold thrown posV at hE
        have d3 : decide (0 ≤ va) = false := decide_eq_false h3
        go_enter Tryz.func28, Tryz.ntmps28
        go_wp2_with (go_at_call 22; refine (HN.out _ HB.out).mono ?_; rintro e w1 ⟨rfl, hb⟩; have HB1 := Lib.hid hb; obtain ⟨x0, x1, y0, y1, y2, y3⟩ := hb.cells; clear hb HN)
        go_quiet (fail)
        go_wp2_with (fail)
        go_quiet ((first | (go_at_call 23; exact qs2 (HXA.out _)) | (go_at_call 23; exact qs2 (HXB.out _))))
        go_wp2
        exact ⟨rfl, hE _ _ ⟨rfl, HB1.out.chg.drewN _⟩⟩
  · have q4 : ((d.toNat : Int) == 120) = false := ne_lit hx (by rfl)
    have hE : ∀ e w', e = thrown q ∧ Chg [p] w w' → EscEnd w p src i q vo (d :: r) e w' := fun e w' h0 => by
      have : escT (d :: r) = none := by simp [escT, hq, hbs, hn, hx]
      unfold EscEnd
      rw [this]
      exact h0
    unfold thrown posV at hE
    clear hat hlen h hq hbs hn hx
    go_enter Tryz.func28, Tryz.ntmps28
    go_wp2_with (go_at_call 22; refine (HN.out _ HB.out).mono ?_; rintro e w1 ⟨rfl, hb⟩; have HB1 := Lib.hid hb; obtain ⟨x0, x1, y0, y1, y2, y3⟩ := hb.cells; clear hb HN)
    exact ⟨rfl, hE _ _ ⟨rfl, HB1.out.chg⟩⟩
end Go.Proofs.YtlailomhgipppaaGreatDoor
