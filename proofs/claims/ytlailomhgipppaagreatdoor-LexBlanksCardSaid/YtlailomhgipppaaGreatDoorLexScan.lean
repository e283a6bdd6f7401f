/- Layer 10: Scan: all tokens, or where a text is none. -/
import Derived.Test.YtlailomhgipppaaGreatDoorLexStep
import Derived.Defers
import Derived.Recover
import Derived.Laws.Pointers
namespace Go.Proofs.YtlailomhgipppaaGreatDoor
open Go.RowKit Lx
set_option linter.unusedVariables false
set_option linter.unusedSimpArgs false

/-- The three results' boxes. -/
structure Res (b : Nat) (v0 v1 v2 v3 : Value) (W : World) : Prop where
  h0 : W.heap[b]? = some (.cells #[v0] 24 (0, 0))
  h1 : W.heap[b + 1]? = some (.cells #[v1, v2] 26 (0, 0))
  h2 : W.heap[b + 2]? = some (.cells #[v3] 27 (0, 0))
theorem Res.stored {b : Nat} {v0 v1 v2 v3 y0 y1 y2 y3 : Value} {W : World} (h : Res b v0 v1 v2 v3 W) :
    Res b y0 y1 y2 y3 ((((W.setCell ⟨b, 0, none⟩ y0).setCell ⟨b + 1, 0, none⟩ y1).setCell ⟨b + 1, 1, none⟩ y2).setCell ⟨b + 2, 0, none⟩ y3) ∧
    Chg [b, b + 1, b + 2] W ((((W.setCell ⟨b, 0, none⟩ y0).setCell ⟨b + 1, 0, none⟩ y1).setCell ⟨b + 1, 1, none⟩ y2).setCell ⟨b + 2, 0, none⟩ y3) := by
  obtain ⟨h0, h1, h2⟩ := h
  have s0 := set_block (o := 0) (u := y0) h0
  have c0 := chg_set W b 0 y0
  have t1 := (c0.block (b + 1) (lt_of_block h1) (by simp)).trans h1
  have t2 := (c0.block (b + 2) (lt_of_block h2) (by simp)).trans h2
  generalize W.setCell ⟨b, 0, none⟩ y0 = W1 at *
  have s1 := set_block (o := 1) (u := y2) (set_block (o := 0) (u := y1) t1)
  have c1 : Chg [b + 1] W1 ((W1.setCell ⟨b + 1, 0, none⟩ y1).setCell ⟨b + 1, 1, none⟩ y2) := ((Chg.refl [b + 1] W1).setCell (p := ⟨b + 1, 0, none⟩) (.inl (by simp)) _).setCell (p := ⟨b + 1, 1, none⟩) (.inl (by simp)) _
  have r0 := (c1.block b (lt_of_block s0) (by simp)).trans s0
  have r2 := (c1.block (b + 2) (lt_of_block t2) (by simp)).trans t2
  generalize (W1.setCell ⟨b + 1, 0, none⟩ y1).setCell ⟨b + 1, 1, none⟩ y2 = W2 at *
  have s2 := set_block (o := 0) (u := y3) r2
  have c2 := chg_set W2 (b + 2) 0 y3
  exact ⟨⟨(c2.block b (lt_of_block r0) (by simp)).trans r0, (c2.block (b + 1) (lt_of_block s1) (by simp)).trans s1, s2⟩,
    ((c0.mono (F' := [b, b + 1, b + 2]) (by simp)).trans (c1.mono (F' := [b, b + 1, b + 2]) (by simp)) (Within.refl _ _)).trans (c2.mono (F' := [b, b + 1, b + 2]) (by simp)) (Within.refl _ _)⟩
set_option maxRecDepth 100000 in
set_option maxHeartbeats 1600000 in
theorem catch_panicking (b : Nat) (x : Pos) (w : World) (v0 v1 v2 v3 : Value) (h : Res b v0 v1 v2 v3 w) :
    CallsD Tryz.prog 12 #[.pointer (some ⟨b, 0, none⟩), .pointer (some ⟨b + 1, 0, none⟩), .pointer (some ⟨b + 2, 0, none⟩)] (.panicking [{ v := .iface 46 (posV x), recovered := false }]) w fun e u' w' =>
      e = .returned (.tuple #[]) ∧ u' = .panicking [{ v := .iface 46 (posV x), recovered := true }] ∧ Chg [b, b + 1, b + 2] w w' ∧ Res b (.slice none 0 0) (.int .i64 x.1) (.int .i64 x.2) (.int .i64 10) w' := by
  obtain ⟨o, ho⟩ : ∃ o, o = Obj.cells #[.int .i64 x.1, .int .i64 x.2] 46 (0, 0) := ⟨_, rfl⟩
  have hR : Res b v0 v1 v2 v3 (w.alloc o) := ⟨(heap_alloc_old _ _ (lt_of_block h.h0)).trans h.h0, (heap_alloc_old _ _ (lt_of_block h.h1)).trans h.h1, (heap_alloc_old _ _ (lt_of_block h.h2)).trans h.h2⟩
  have hN : (w.alloc o).heap[w.heap.size]? = some (.cells #[.int .i64 x.1, .int .i64 x.2] 46 (0, 0)) := by rw [ho]; exact heap_alloc_new w _
  have hC : Chg [b, b + 1, b + 2] w (w.alloc o) := (Chg.refl _ w).alloc o
  have l0 := lt_of_block h.h0
  have l1 := lt_of_block h.h1
  have l2 := lt_of_block h.h2
  have hta : ∀ (W : World) (v : Value), (Instr.typeAssert (.iface 46 v) 20 46 true).run Tryz.prog W = .ok (.tuple #[v, .bool true]) W := fun W v => by kernel_rfl
  have H := Lib.hid h
  clear h
  unfold posV
  refine callsD_of_wpS Tryz.func12 rfl fun c₀ cs hu => ?_
  apply wpS_seq
  apply wpS_region
  simp [wpOpsS, go_sem, recoverD, hu, Tryz.ntmps12, Exit.thenS]
  refine wpS_of_wp ?_
  rw [show (#[Value.pointer (some ⟨b, 0, none⟩), Value.pointer (some ⟨b + 1, 0, none⟩), Value.pointer (some ⟨b + 2, 0, none⟩)] ++ (Array.replicate 11 undef).setIfInBounds 3 (Value.iface 46 (.agg #[.int .i64 x.1, .int .i64 x.2])) : Array Value) = #[Value.pointer (some ⟨b, 0, none⟩), Value.pointer (some ⟨b + 1, 0, none⟩), Value.pointer (some ⟨b + 2, 0, none⟩), undef, undef, undef, Value.iface 46 (.agg #[.int .i64 x.1, .int .i64 x.2]), undef, undef, undef, undef, undef, undef, undef] from rfl]
  go_wp2
  rw [← ho]
  generalize hn : w.heap.size = n at *
  generalize w.alloc o = W1 at *
  have HR := Lib.hid hR
  have HC := Lib.hid hC
  have a0 : W1.cell? ⟨b, 0, none⟩ = some v0 := by simp [World.cell?, hR.h0]
  have a1 : W1.cell? ⟨b + 1, 0, none⟩ = some v1 := by simp [World.cell?, hR.h1]
  have a2 : W1.cell? ⟨b + 1, 1, none⟩ = some v2 := by simp [World.cell?, hR.h1]
  have a3 : W1.cell? ⟨b + 2, 0, none⟩ = some v3 := by simp [World.cell?, hR.h2]
  have f0 : W1.frozen? ⟨b, 0, none⟩ = false := by simp [World.frozen?, hR.h0]
  have f1 : W1.frozen? ⟨b + 1, 0, none⟩ = false := by simp [World.frozen?, hR.h1]
  have f2 : W1.frozen? ⟨b + 1, 1, none⟩ = false := by simp [World.frozen?, hR.h1]
  have f3 : W1.frozen? ⟨b + 2, 0, none⟩ = false := by simp [World.frozen?, hR.h2]
  obtain ⟨n0, n1⟩ := box2 hN
  have m0 : ¬ b = n := by omega
  have m1 : ¬ b + 1 = n := by omega
  have m2 : ¬ b + 2 = n := by omega
  clear hR hN hC ho hn
  go_region_held3 (fun w' => w'.cell? ⟨n, 0, none⟩ = some (.int .i64 x.1) ∧ w'.cell? ⟨n, 1, none⟩ = some (.int .i64 x.2)) (first | go_keep | (simp [World.cell?_setCell_other, *]; done)) (fail)
  obtain ⟨z1, z2⟩ := HR.out.stored (y0 := .slice none 0 0) (y1 := .int .i64 x.1) (y2 := .int .i64 x.2) (y3 := .int .i64 10)
  generalize (((World.setCell _ _ _).setCell _ _).setCell _ _).setCell _ _ = wz at z1 z2 ⊢
  have hz1 : Res b (.slice none 0 0) (.int .i64 x.1) (.int .i64 x.2) (.int .i64 10) wz.drew := ⟨z1.h0, z1.h1, z1.h2⟩
  have hz2 : Chg [b, b + 1, b + 2] w wz.drew := (HC.out.trans z2 (Within.refl _ _)).drewN 1
  generalize wz.drew = wy at *
  clear a0 a1 a2 a3 f0 f1 f2 f3 n0 n1 z1 z2
  go_wp2
  cases c₀
  simp_all [bodyPostS, results, Tryz.results12]
theorem catch_idle (b : Nat) (w : World) :
    CallsD Tryz.prog 12 #[.pointer (some ⟨b, 0, none⟩), .pointer (some ⟨b + 1, 0, none⟩), .pointer (some ⟨b + 2, 0, none⟩)] .returning w fun e u' w' => e = .returned (.tuple #[]) ∧ u' = .returning ∧ w' = w := by
  refine callsD_of_wpS Tryz.func12 rfl fun c₀ cs hu => ?_
  apply wpS_seq
  apply wpS_region
  simp [wpOpsS, go_sem, recoverD, hu, Tryz.ntmps12, Exit.thenS]
  refine wpS_of_wp ?_
  go_wp2
  cases c₀
  simp_all [bodyPostS, results, Tryz.results12]
theorem Res.below {b N : Nat} {v0 v1 v2 v3 : Value} {W W' : World} (h : Res b v0 v1 v2 v3 W) (hb : Below N W W') (hN : b + 3 ≤ N) : Res b v0 v1 v2 v3 W' :=
  ⟨(hb.block b (by omega)).trans h.h0, (hb.block (b + 1) (by omega)).trans h.h1, (hb.block (b + 2) (by omega)).trans h.h2⟩
theorem Res.cells {b : Nat} {v0 v1 v2 v3 : Value} {W : World} (h : Res b v0 v1 v2 v3 W) : W.cell? ⟨b, 0, none⟩ = some v0 ∧ W.cell? ⟨b + 1, 0, none⟩ = some v1 ∧ W.cell? ⟨b + 1, 1, none⟩ = some v2 ∧ W.cell? ⟨b + 2, 0, none⟩ = some v3 ∧ W.frozen? ⟨b, 0, none⟩ = false ∧ W.frozen? ⟨b + 1, 0, none⟩ = false ∧ W.frozen? ⟨b + 1, 1, none⟩ = false ∧ W.frozen? ⟨b + 2, 0, none⟩ = false :=
  ⟨by simp [World.cell?, h.h0], by simp [World.cell?, h.h1], by simp [World.cell?, h.h1], by simp [World.cell?, h.h2], by simp [World.frozen?, h.h0], by simp [World.frozen?, h.h1], by simp [World.frozen?, h.h1], by simp [World.frozen?, h.h2]⟩
/-- What Scan tells. -/
def ScanEnd (w : World) (R : Except Pos (List Tok)) (e : Ending) (w' : World) : Prop := Below w.heap.size w w' ∧ match R with
  | .error x => e = .returned (.tuple #[.slice none 0 0, posV x, .int .i64 10])
  | .ok ts => ∃ vo, e = .returned (.tuple #[vo, .agg #[.int .i64 0, .int .i64 0], .int .i64 0]) ∧ RowZ w' 35 5 vo ts.length (tcells ts) ∧ ∀ k, vo.ownBlock = some k → w.heap.size ≤ k
def ScanLoop (N : Nat) (w0 : World) (p : Nat) (src : ByteArray) (R : Except Pos (List Tok)) (gk : Nat) (wr : World) : Prop :=
  ∃ i q ts vo, i + gk = src.size ∧ PosOk i q ∧ ts.length ≤ i ∧ scanF gk (src.data.toList.drop i) q ts = R ∧ LS N w0 p src i q ts vo wr
theorem stepT_one {c : UInt8} {r r' : List UInt8} {p p' : Pos} {t : List Tok} (h : Lx.stepT c r p = .ok (r', p', t)) : t.length ≤ 1 := by
  unfold Lx.stepT at h
  split at h
  · cases h; simp
  · split at h
    · cases h; simp
    · split at h
      · cases h; simp
      · split at h
        · cases h; simp
        · split at h
          · split at h
            · cases h
            · cases h; simp
          · split at h
            · cases h
            · cases h; simp
set_option maxRecDepth 100000 in
set_option maxHeartbeats 4000000 in
theorem scan_any (src : ByteArray) (w : World) (hs : src.size ≤ 65536) (hF : FTab w) (hE : ErrVar w) :
    Calls Tryz.prog 7 #[.string src] w (ScanEnd w (Lx.scanT src.data.toList)) := by
  have hmf : ∀ (fn : Fn) (first cap : Array Value) (w : World), (Instr.makeFunc fn first cap).run Tryz.prog w = .ok (.func fn first cap) w := fun _ _ _ _ => rfl
  have hLEN : src.data.toList.length = src.size := (Lib.size_eq src).symm
  have HLEN := Lib.hid hLEN
  have HSZ := Lib.hid hs
  have hs1 : ¬ (65536 : Int) < (src.size : Int) := by omega
  obtain ⟨W3, hW3⟩ : ∃ W3, W3 = ((w.alloc (.cells #[.slice none 0 0] 24)).alloc (.cells #[.int .i64 0, .int .i64 0] 26)).alloc (.cells #[.int .i64 0] 27) := ⟨_, rfl⟩
  obtain ⟨W4, hW4⟩ : ∃ W4, W4 = W3.alloc (.cells #[.string src, .int .i64 0, .int .i64 1, .int .i64 1, .slice none 0 0] 49) := ⟨_, rfl⟩
  have hsz : W3.heap.size = w.heap.size + 3 := by rw [hW3]; simp
  have hb3 : Below w.heap.size w W3 := by rw [hW3]; exact (((Below.refl _ _).alloc (Nat.le_refl _) _).alloc (by simp) _).alloc (by simp; omega) _
  have HF := Lib.hid (hF.below hb3)
  have HE := Lib.hid (hE.below hb3)
  have HRES : Hid (Res w.heap.size (.slice none 0 0) (.int .i64 0) (.int .i64 0) (.int .i64 0) W3) := by
    rw [hW3]
    refine ⟨?_, ?_, ?_⟩
    · rw [heap_alloc_old _ _ (by simp; omega), heap_alloc_old _ _ (by simp)]; exact heap_alloc_new w _
    · rw [heap_alloc_old _ _ (by simp)]
      have := heap_alloc_new (w.alloc (.cells #[.slice none 0 0] 24)) (.cells #[.int .i64 0, .int .i64 0] 26)
      rwa [World.size_alloc] at this
    · have := heap_alloc_new ((w.alloc (.cells #[.slice none 0 0] 24)).alloc (.cells #[.int .i64 0, .int .i64 0] 26)) (.cells #[.int .i64 0] 27)
      rwa [World.size_alloc, World.size_alloc] at this
  have HLS : Hid (LS (w.heap.size + 3) W3 (w.heap.size + 3) src 0 (1, 1) [] (.slice none 0 0) W4) := by
    rw [hW4, ← hsz]
    exact ⟨heap_alloc_new W3 _, RowZ.nil _ _ _, fun k hk => by simp [Value.ownBlock] at hk, Nat.le_refl _, (Below.refl _ _).alloc (Nat.le_refl _) _⟩
  generalize hR : Lx.scanT src.data.toList = R
  have HR : Hid (scanF src.size src.data.toList (1, 1) [] = R) := by
    show _ = R
    rw [← hR]
    unfold scanT
    rw [hLEN]
  have HB3 := Lib.hid hb3
  have HSZ3 := Lib.hid hsz
  clear hLEN hs hF hE hb3 hR hsz
  go_enter_defers Tryz.func7, Tryz.ntmps7
  go_wp2
  rw [← hW3, ← hW4]
  rw [show w.heap.size + 1 + 1 + 1 = w.heap.size + 3 from rfl, show w.heap.size + 1 + 1 = w.heap.size + 2 from rfl]
  have HN3 : Hid (W3.heap.size ≤ w.heap.size + 3) := by show _ ≤ _; rw [HSZ3.out]; exact Nat.le_refl _
  clear hW3 hW4
  go_loopg [] src.size (fun gk wr => ScanLoop (w.heap.size + 3) W3 (w.heap.size + 3) src R gk wr)
  case atStart => exact ⟨0, (1, 1), [], .slice none 0 0, by omega, ⟨by simp, by simp⟩, by simp, HR.out, HLS.out⟩
  case round =>
    obtain ⟨i, q, ts, vo, hig, hq, hts, hT, hls⟩ := hrel
    clear HLS HR
    have HL := Lib.hid hls
    have HM := Lib.hid (more_any wr _ i src q vo hls.sc)
    have HT := Lib.hid hT
    have HQ := Lib.hid hq
    have HTS := Lib.hid hts
    have HIG := Lib.hid hig
    by_cases hlt : i < src.size
    · have d1 : decide (i < src.size) = true := decide_eq_true hlt
      rw [d1] at HM
      obtain ⟨c, r, hcr⟩ : ∃ c r, src.data.toList.drop i = c :: r := by
        cases hd : src.data.toList.drop i with
        | nil =>
          have := congrArg List.length hd
          rw [List.length_drop, HLEN.out] at this
          simp at this
          omega
        | cons c r => exact ⟨c, r, rfl⟩
      have hrl : r.length + i + 1 = src.size := by
        have := congrArg List.length hcr
        rw [List.length_drop, HLEN.out, List.length_cons] at this
        omega
      have HST : Hid (∀ W, LS (w.heap.size + 3) W3 (w.heap.size + 3) src i q ts vo W → Calls Tryz.prog 14 #[.pointer (some ⟨w.heap.size + 3, 0, none⟩)] W (StepEnd (w.heap.size + 3) W3 (w.heap.size + 3) src ts (Lx.stepT c r q))) := fun W hW =>
        step_any (w.heap.size + 3) W3 W (w.heap.size + 3) i src q ts vo hW (by have := HSZ.out; omega) hq c r hcr hts HF.out HE.out HN3.out
      obtain ⟨g, rfl⟩ : ∃ g, gk = g + 1 := ⟨gk - 1, by omega⟩
      rw [hcr] at hT
      unfold scanF at hT
      replace HT := Lib.hid hT
      have HRL := Lib.hid hrl
      clear hig hq hts hT hls d1 hlt hcr hrl
      cases hstep : Lx.stepT c r q with
      | error x =>
        have hz : R = .error x := by have := HT.out; rw [hstep] at this; exact this.symm
        subst hz
        have HS2 : Hid (∀ W, LS (w.heap.size + 3) W3 (w.heap.size + 3) src i q ts vo W → Calls Tryz.prog 14 #[.pointer (some ⟨w.heap.size + 3, 0, none⟩)] W fun e w' => e = thrown x ∧ Below (w.heap.size + 3) W3 w') := fun W hW => (HST.out W hW).mono fun e w' h => by rw [hstep] at h; exact h
        unfold thrown at HS2
        clear hstep HST HT
        go_wp2_with (first
          | (go_at_call 13; (with_reducible refine HM.out.mono ?_); rintro e w1 ⟨rfl, hb⟩; have HL1 := Lib.hid (HL.out.later hb); clear hb HM; dsimp only)
          | (go_at_call 14; (with_reducible refine (HS2.out _ HL1.out).mono ?_); rintro e w2 ⟨rfl, hb⟩; have HB2 := Lib.hid hb; clear hb HS2; dsimp only))
        refine leaves_cons (f := 12) (args := #[.pointer (some ⟨w.heap.size, 0, none⟩), .pointer (some ⟨w.heap.size + 1, 0, none⟩), .pointer (some ⟨w.heap.size + 2, 0, none⟩)]) (by simp) (by simp [go_sem]) ?_
        refine (catch_panicking w.heap.size x _ _ _ _ _ (HRES.out.below HB2.out (Nat.le_refl _))).mono ?_
        rintro e u' w'' ⟨rfl, rfl, hc, hr⟩
        obtain ⟨a0, a1, a2, a3, _⟩ := hr.cells
        have hbw : Below w.heap.size w w'' := (HB3.out.trans (HB2.out.mono (by omega))).trans (hc.below (by have := HB2.out.size; have := HSZ3.out; omega) (fun k hk => by simp at hk; omega))
        have HBW := Lib.hid hbw
        clear hc hr hbw
        simp [Leaves, settle, results, Tryz.results7, go_sem, a0, a1, a2, a3]
        exact ⟨HBW.out, rfl⟩
      | ok x =>
        obtain ⟨r', q', t⟩ := x
        have hrl' := stepT_len hstep
        have ht1 := stepT_one hstep
        have hz := HT.out
        rw [hstep] at hz
        have HT2 := Lib.hid hz
        have HS2 : Hid (∀ W, LS (w.heap.size + 3) W3 (w.heap.size + 3) src i q ts vo W → Calls Tryz.prog 14 #[.pointer (some ⟨w.heap.size + 3, 0, none⟩)] W fun e w' => e = .returned (.tuple #[]) ∧ ∃ i vo, i ≤ src.size ∧ src.data.toList.drop i = r' ∧ PosOk i q' ∧ LS (w.heap.size + 3) W3 (w.heap.size + 3) src i q' (ts ++ t) vo w') := fun W hW => (HST.out W hW).mono fun e w' h => by rw [hstep] at h; exact h
        clear hstep HST HT hz
        go_wp2_with (first
          | (go_at_call 13; (with_reducible refine HM.out.mono ?_); rintro e w1 ⟨rfl, hb⟩; have HL1 := Lib.hid (HL.out.later hb); clear hb HM; dsimp only)
          | (go_at_call 14; (with_reducible refine (HS2.out _ HL1.out).mono ?_); rintro e w2 ⟨rfl, i2, vo2, hi2, hd2, hq2, hl2⟩; have HL2 := Lib.hid hl2; have HI2 := Lib.hid hi2; have HD2 := Lib.hid hd2; have HQ2 := Lib.hid hq2; clear hi2 hd2 hq2 hl2 HS2; dsimp only))
        have hlen2 : r'.length + i2 = src.size := by
          have h := congrArg List.length HD2.out
          rw [List.length_drop, HLEN.out] at h
          have := HI2.out
          omega
        go_roundg (src.size - i2)
        case measure => have := HRL.out; have := HIG.out; omega
        case rel =>
          have := HRL.out
          have := HIG.out
          have := HTS.out
          refine ⟨i2, q', ts ++ t, vo2, by omega, HQ2.out, by rw [List.length_append]; omega, ?_, HL2.out⟩
          rw [HD2.out, scanF_fuel (src.size - i2) g _ _ _ (by omega) (by omega)]
          exact HT2.out
    · have d1 : decide (i < src.size) = false := decide_eq_false hlt
      rw [d1] at HM
      have hz : R = .ok ts := by
        have := HT.out
        rw [List.drop_eq_nil_of_le (by rw [HLEN.out]; omega)] at this
        unfold scanF at this
        exact this.symm
      subst hz
      obtain ⟨ao, cap, rfl, _⟩ := HL.out.form
      clear hig hq hts hT hls d1 hlt
      go_wp2_with (go_at_call 13; (with_reducible refine HM.out.mono ?_); rintro e w1 ⟨rfl, hb⟩; have hl1 := HL.out.later hb; have c4 := hl1.sc.c4; have hr1 := HRES.out.below hl1.below (Nat.le_refl _); obtain ⟨a0, a1, a2, a3, f0, f1, f2, f3⟩ := hr1.cells; have HR1 := Lib.hid hr1; have HL1 := Lib.hid hl1; clear hb HM hl1 hr1; dsimp only)
      obtain ⟨z1, z2⟩ := HR1.out.stored (y0 := .slice ao ts.length cap) (y1 := .int .i64 0) (y2 := .int .i64 0) (y3 := .int .i64 0)
      generalize (((World.setCell _ _ _).setCell _ _).setCell _ _).setCell _ _ = wz at z1 z2 ⊢
      clear a0 a1 a2 a3 f0 f1 f2 f3
      obtain ⟨a0, a1, a2, a3, _⟩ := z1.cells
      have hrow := HL1.out.row.chg z2 (fun k hk => by have := (HL1.out.own k hk).1; simp; omega)
      have hown := HL1.out.own
      have hbw : Below w.heap.size w wz := (HB3.out.trans (HL1.out.below.mono (by omega))).trans (z2.below (by have := HL1.out.below.size; have := HSZ3.out; omega) (fun k hk => by simp at hk; omega))
      have HBW := Lib.hid hbw
      have HROW := Lib.hid hrow
      have HOWN := Lib.hid hown
      clear z1 z2 hbw hrow hown
      refine leaves_cons (f := 12) (args := #[.pointer (some ⟨w.heap.size, 0, none⟩), .pointer (some ⟨w.heap.size + 1, 0, none⟩), .pointer (some ⟨w.heap.size + 2, 0, none⟩)]) (by simp) (by simp [go_sem]) ?_
      refine (catch_idle w.heap.size _).mono ?_
      rintro e u' w'' ⟨rfl, rfl, rfl⟩
      simp [Leaves, settle, results, Tryz.results7, go_sem, a0, a1, a2, a3]
      exact ⟨HBW.out, _, rfl, HROW.out, fun k hk => by have := (HOWN.out k hk).1; omega⟩
end Go.Proofs.YtlailomhgipppaaGreatDoor
