/- Texts of the proof, in build order: StNg, StTn. -/
import Derived.Test.YtcpgbekcbaelpaaGreatDoorF38
import Derived.Test.YtcpgbekcbaelpaaGreatDoorF39
import Derived.Test.YtcpgbekcbaelpaaGreatDoorF32
import Derived.Test.YtcpgbekcbaelpaaGreatDoorF15
import Derived.Test.YtcpgbekcbaelpaaGreatDoorF37
set_option linter.unusedVariables false
set_option linter.unusedSimpArgs false
set_option linter.unusedSectionVars false
/- Layer 7: a checkpoint that the power may break off; the crash; the opening behind it; a copy. -/
namespace Go.Proofs.YtcpgbekcbaelpaaGreatDoor
open Go.RowKit Go.Shelf Go.Maps Wr
set_option linter.unusedVariables false
set_option linter.unusedSimpArgs false
theorem St.Good.lays {s : St.Sto} {n : Nat} {f : Nat → List UInt8} {t : Int} (g : St.Good dk s n f t) (ht : t + 1 ≤ 4611686018427387904) : ∃ o0 n0 rs, St.Inv dk s n f o0 n0 rs ∧ St.Lays dk s s.objs s.next := by
  obtain ⟨o0, n0, rs, h⟩ := g.inv
  have hm : St.mostAge = 4611686018427387904 := rfl
  have h1 := g.fit
  have h2 := g.cap
  have h3 := g.turn
  have h4 := g.age
  exact ⟨o0, n0, rs, h, ⟨h.obs, h1, by omega, by omega, by omega⟩⟩
def Wb {α : Type} (m : St.DM α) (c : Nat) : Prop := ∀ d, (m d).2.waits.length ≤ d.waits.length + c
theorem Wb.ret {α : Type} (a : α) : Wb (St.DM.ret a) 0 := fun d => Nat.le_refl _
theorem Wb.write (i : Int) (b : List UInt8) : Wb (St.writeD i b) 1 := fun d => by
  have := write_waits d i b
  unfold St.writeD
  split <;> exact this
theorem Wb.barrier : Wb St.barrierD 0 := fun d => by
  have := (barrier_waits d).1
  unfold St.barrierD
  split <;> exact this
theorem Wb.andThen {α β : Type} {m : St.DM α} {f : α → St.DM β} {c1 c2 : Nat} (h : Wb m c1) (k : ∀ a, Wb (f a) c2) : Wb (m.andThen f) (c1 + c2) := fun d => by
  have h1 := h d
  unfold St.DM.andThen
  rcases hm : m d with ⟨r, d1⟩
  rw [hm] at h1
  cases r with
  | ok a =>
    have := k a d1
    dsimp only at h1 ⊢
    omega
  | error e =>
    dsimp only at h1 ⊢
    omega
theorem Wb.mono {α : Type} {m : St.DM α} {c c' : Nat} (h : Wb m c) (hc : c ≤ c') : Wb m c' := fun d => Nat.le_trans (h d) (by omega)
theorem Wb.writes : ∀ (l : List (List UInt8)) (i : Int), Wb (St.writesD i l) l.length
  | [], i => Wb.ret ()
  | b :: l, i => ((Wb.write i b).andThen (fun _ => Wb.writes l (i + 1))).mono (by rw [List.length_cons]; omega)
theorem Wb.turnOver (s : St.Sto) (o : St.Objs) (next : Int) : Wb (s.turnOver o next) (((St.image o next).length + 511) / 512 + 2) := by
  have h1 := Wb.writes (St.chunks 512 (St.full (St.image o next))) (((2 + s.count : Nat) : Int) + (1 - s.hd.half) * s.each)
  rw [St.full_chunks] at h1
  have h2 : Wb (St.laid s.count s.each o next ⟨s.hd.turn + 1, 1 - s.hd.half, 0, 0, s.log.age + 1⟩) (((St.image o next).length + 511) / 512 + (0 + (1 + (0 + 0)))) := h1.andThen (fun _ => Wb.barrier.andThen (fun _ => (Wb.write _ _).andThen (fun _ => Wb.barrier.andThen (fun _ => Wb.ret _))))
  have h3 : Wb s.log.truncate (1 + (0 + 0)) := (Wb.write _ _).andThen (fun _ => Wb.barrier.andThen (fun _ => Wb.ret _))
  exact (h2.andThen (c2 := 1 + (0 + 0) + 0) (fun _ => h3.andThen (fun _ => Wb.ret _))).mono (by omega)
structure Am (w : World) (b g : Nat) (s : St.Sto) (D : St.Dk) (n : Nat) (t : Int) (A : Nat → Prop) : Prop where
  sd : SdAt w b g s D A
  live : ∃ f, St.Powr D n f [] false ∧ St.Good dk s n f t
  n1 : n ≤ 1000
structure Tn (w : World) (g : Nat) (s : St.Sto) (D : St.Dk) (n : Nat) (t : Int) (A : Nat → Prop) : Prop where
  dsk : ∃ E, DkAt w g D E E ∧ (∀ k, E k → A k) ∧ ¬ E 0
  half : Half w
  live : ∃ f, St.Torn dk s n f s.objs s.next D ∧ St.Good dk s n f t
  n1 : n ≤ 1000
section
variable {w w' : World} {b g n : Nat} {s : St.Sto} {D : St.Dk} {t : Int} {A Q : Nat → Prop}
theorem Sg.arm (h : Sg w b g s D n t A) (k : Int) (hk : (Lit.int .i64 k).wf = true) : Calls Tryz.prog 25 #[.pointer (some ⟨g, 0, none⟩), .int .i64 k] w fun e w' => e = .returned (.tuple #[]) ∧ Turn A w w' ∧ ∃ D', Am w' b g s D' n t A := by
  obtain ⟨E, F, hs, hE, hF⟩ := h.sd
  obtain ⟨f, hL, hg⟩ := h.live
  refine (dkArm_any hs.dk k hk).mono ?_
  rintro e w' ⟨rfl, hd, ht⟩
  have hz := ht.size
  exact ⟨rfl, ht.mono hE, D.arm k, ⟨E, F, ⟨hd, hs.st.turn ht (fun k hk e => hs.ef k e hk), fun k hk => Nat.lt_of_lt_of_le (hs.el k hk) hz, fun k hk => Nat.lt_of_lt_of_le (hs.fl k hk) hz, hs.ef, hs.half.turn ht hs.eh, hs.eh, hs.fh⟩, hE, hF⟩, ⟨f, by have hp := St.Powr.of_live hL h.q; exact ⟨hp.off, hp.len, hp.wq, hp.win, hp.at'⟩, hg⟩, h.n1⟩
theorem Am.facts (h : Am w b g s D n t A) (ht : t + 1 ≤ 4611686018427387904) : StB s ∧ D.waits = [] ∧ D.last.length = n ∧ 2 + s.count + 2 * s.each ≤ n := by
  obtain ⟨f, hp, hg⟩ := h.live
  obtain ⟨o0, n0, rs, hi⟩ := hg.inv
  have h1 := hg.fit
  have h2 := hi.geo
  have h3 := h.n1
  have h4 := hi.obs.n1
  have h5 := hi.obs.n2
  have h6 := hi.hok.t1
  have h7 := hg.turn
  have h8 := hi.hok.a1
  have h9 := hg.age
  have hla : s.log.age = s.hd.age := by rw [hi.log]
  have hlf : s.log.first = 2 := by rw [hi.log]
  exact ⟨⟨⟨by omega, by omega⟩, fun x hx => by have := hi.obs.each x hx; omega, by omega, ⟨by omega, by omega⟩, ⟨hi.hok.f1, hi.hok.f2⟩, ⟨by omega, by omega⟩, by omega, by omega, by omega⟩, hp.wq, hp.len, h2⟩
def CkEnd (w : World) (g : Nat) (s : St.Sto) (n : Nat) (t : Int) (A : Nat → Prop) (e : Ending) (w' : World) : Prop :=
  ∃ x, e = .returned (.int .i64 x) ∧ (x = 0 ∨ x = 8) ∧ Turn A w w' ∧ Half w' ∧ ∃ E D', DkAt w' g D' E E ∧ (∀ k, E k → Gro A w.heap.size k) ∧ ¬ E 0 ∧ D'.waits.length ≤ 200000 ∧ ∀ picks, ∃ f, St.Torn dk s n f s.objs s.next (D'.crash picks) ∧ St.Good dk s n f t
theorem Am.checkpoint (h : Am w b g s D n t A) (ht : t + 1 ≤ 4611686018427387904) : Calls Tryz.prog 12 #[.pointer (some ⟨b, 0, none⟩)] w (CkEnd w g s n t A) := by
  obtain ⟨hb, hq, hlen, hgeo⟩ := h.facts ht
  obtain ⟨E, F, hs, hE, hF⟩ := h.sd
  obtain ⟨f, hp, hg⟩ := h.live
  obtain ⟨mb, pl, ov, hw⟩ := hs.opened
  obtain ⟨o0, n0, rs, hi, hl⟩ := hg.lays ht
  refine (checkpoint_any' hw hb (by rw [hq]; simp)).mono ?_
  rintro e w' ⟨rfl, hd, ht1, _⟩
  have hh := hs.half.lt
  have hwl : (s.turnOver s.objs s.next D).2.waits.length ≤ 200000 := by
    have h1 := Wb.turnOver s s.objs s.next D
    rw [hq] at h1
    have h2 := hb.l
    simp only [List.length_nil] at h1
    omega
  have hz := ht1.size
  have hT : Half w' := hs.half.turn ht1 (fun e => by
    rcases e with e | e | e
    · exact hs.eh e
    · exact hs.fh (e ▸ hw.st.f0)
    · exact hs.fh (e ▸ hw.st.f2))
  have tA : Turn A w w' := ht1.mono (fun k hk => by
    rcases hk with hk | hk | hk
    · exact hE k hk
    · exact hF k (hk ▸ hw.st.f0)
    · exact hF k (hk ▸ hw.st.f2))
  have hcr := fun picks => St.turnOver_crash hi hl hp picks
  rcases hr : s.turnOver s.objs s.next D with ⟨r, D'⟩
  rw [hr] at hd hwl
  refine ⟨_, rfl, ?_, tA, hT, fun k => Gro E w.heap.size k, D', hd, fun k hk => hk.mono hE, fun e => ?_, hwl, fun picks => ⟨f, ?_, hg⟩⟩
  · rcases hcr [] with ⟨e1, _⟩ | ⟨e1, _⟩
    · rw [hr] at e1
      dsimp only at e1
      rw [e1]
      exact .inl rfl
    · rw [hr] at e1
      dsimp only at e1
      rw [e1]
      exact .inr rfl
  · rcases e with e | e
    · exact hs.eh e
    · omega
  · rcases hcr picks with ⟨_, e2⟩ | ⟨_, e2⟩
    · rw [hr] at e2
      dsimp only at e2
      refine .fin ⟨rfl, rfl, ?_, (fun x hx => by cases hx), fun i hi' => ?_⟩ rfl
      · show (St.settle D'.last D'.waits _ 0).length = n
        rw [e2.wq]
        exact e2.len
      · have := e2.at' i hi'
        unfold St.Dk.now St.Dk.crash
        rw [e2.wq]
        exact this
    · rw [hr] at e2
      exact e2
theorem crash_tn {E : Nat → Prop} {v : Value} {picks : List Int} (hd : DkAt w g D E E) (hw : D.waits.length ≤ 1000000) (hh : Half w) (hEh : ¬ E 0) (hl : ∃ f, St.Torn dk s n f s.objs s.next (D.crash picks) ∧ St.Good dk s n f t) (hn : n ≤ 1000) (hv : IntsAt w v picks) (hvM : picks ≠ [] → ∀ a n c, v = .slice (some a) n c → a.block < w.heap.size ∧ ¬ E a.block) :
    Calls Tryz.prog 26 #[.pointer (some ⟨g, 0, none⟩), v] w fun e w' => e = .returned (.tuple #[]) ∧ Turn E w w' ∧ Tn w' g s (D.crash picks) n t (Gro E w.heap.size) := by
  refine (dkCrash_any hd hw hv hvM).mono ?_
  rintro e w' ⟨rfl, hd', ht⟩
  have hz := hh.lt
  exact ⟨rfl, ht, ⟨_, hd', fun k hk => hk, fun e => by
    rcases e with e | e
    · exact hEh e
    · omega⟩, hh.turn ht hEh, hl, hn⟩
theorem Tn.opened {log : Int} (h : Tn w g s D n t A) (ht : t + 1 ≤ 4611686018427387904) (hlay : St.layT n log = some (s.count, s.each)) :
    Calls Tryz.prog 13 #[.pointer (some ⟨g, 0, none⟩), .int .i64 log] w fun e w' => ∃ b s' D', e = .returned (.tuple #[.pointer (some ⟨b, 0, none⟩), .int .i64 0]) ∧ Turn A w w' ∧ Sg w' b g s' D' n (t + 1) (Gro A w.heap.size) ∧ s'.objs = s.objs ∧ s'.next = s.next ∧ s'.count = s.count ∧ s'.each = s.each := by
  obtain ⟨E, hd, hE, hEh⟩ := h.dsk
  obtain ⟨f, htn, hg⟩ := h.live
  obtain ⟨o0, n0, rs, hi, hl⟩ := hg.lays ht
  obtain ⟨D', s', f', hok, hL', hs'⟩ := St.torn_open hi hl htn
  have hwe := htn.empty
  have hoff : D.off = false ∧ D.last.length = n := by
    cases htn with
    | old f'' h1 _ _ => exact ⟨h1.off, h1.len⟩
    | mid h1 _ => exact ⟨h1.off, h1.len⟩
    | fin h1 _ => exact ⟨h1.off, h1.len⟩
  have hgeo := hi.geo
  have hn1 := h.n1
  have g1 := hg.turn
  have g2 := hg.age
  refine (open_any' hd hEh h.half hoff.1 (by rw [hwe]; simp) (by rw [hoff.2]; exact hlay) (by omega) (by omega) hok).mono ?_
  rintro e w' ⟨b, rfl, ht', E', F, hsd, hE', hF⟩
  have hq : D'.waits = [] := open_quiet hok hwe
  rcases hs' with ⟨rfl, hi'⟩ | ⟨rfl, hi'⟩
  · exact ⟨b, _, D', rfl, ht'.mono hE, ⟨⟨E', F, hsd, fun k hk => (hE' k hk).imp (hE k) id, fun k hk => .inr (hF k hk)⟩, hq, ⟨f', hL', ⟨⟨_, _, _, hi'⟩, hg.fit, hg.cap, by omega, by omega⟩⟩, h.n1⟩, rfl, rfl, rfl, rfl⟩
  · exact ⟨b, _, D', rfl, ht'.mono hE, ⟨⟨E', F, hsd, fun k hk => (hE' k hk).imp (hE k) id, fun k hk => .inr (hF k hk)⟩, hq, ⟨f', hL', ⟨⟨_, _, _, hi'⟩, hg.fit, hg.cap, by show s.hd.turn + 1 ≤ _; omega, by show s.hd.age + 1 ≤ _; omega⟩⟩, h.n1⟩, rfl, rfl, rfl, rfl⟩
structure Cp (w : World) (g : Nat) (s : St.Sto) (n : Nat) (t : Int) (N : Nat) : Prop where
  dsk : ∃ D M R, DkAt w g D M R ∧ (∀ k, M k → N ≤ k) ∧ D.waits = [] ∧ ∃ f, St.Live D n f ∧ St.Good dk s n f t
  half : Half w
  lt : 0 < N
  n1 : n ≤ 1000
theorem Sg.copy (h : Sg w b g s D n t A) : Calls Tryz.prog 27 #[.pointer (some ⟨g, 0, none⟩)] w fun e w' => ∃ g', e = .returned (.pointer (some ⟨g', 0, none⟩)) ∧ Below w.heap.size w w' ∧ Cp w' g' s n t w.heap.size ∧ ∃ D2 M2 R2, DkAt w' g' D2 M2 R2 ∧ D2.last = D.last := by
  have hf := h.facts
  obtain ⟨E, F, hs, hE, hF⟩ := h.sd
  obtain ⟨f, hL, hg⟩ := h.live
  have hgeo := hf.geo
  have hc3 := hf.c3
  refine (dkCopy_any hs.dk (by rw [hL.len]; omega)).mono ?_
  rintro e w' ⟨g', rfl, hb, hd⟩
  have hp := St.Powr.of_live hL h.q
  exact ⟨g', rfl, hb, ⟨⟨_, _, _, hd, fun k hk => hk.1, rfl, f, ⟨rfl, rfl, hL.len, (fun x hx => by cases hx), fun i hi => hp.at' i hi⟩, hg⟩, hs.half.below hb, hs.half.lt, h.n1⟩, _, _, _, hd, rfl⟩
theorem Cp.opened {N : Nat} {log : Int} (h : Cp w g s n t N) (hN : N ≤ w.heap.size) (hlay : St.layT n log = some (s.count, s.each)) :
    Calls Tryz.prog 13 #[.pointer (some ⟨g, 0, none⟩), .int .i64 log] w fun e w' => ∃ b, e = .returned (.tuple #[.pointer (some ⟨b, 0, none⟩), .int .i64 0]) ∧ Below N w w' ∧ ∃ F, StAt w' b g s F := by
  obtain ⟨D, M, R, hd, hM, hq, f, hL, hg⟩ := h.dsk
  obtain ⟨D', hok, hL'⟩ := St.good_open hg D hL
  have hlt := h.lt
  obtain ⟨h1, h2, h3⟩ := lay_of hlay
  have hn1 := h.n1
  refine (open_mr hd (fun e => by have := hM _ e; omega) h.half hL.off (by rw [hq]; simp) (by rw [hL.len]; exact hlay) (by omega) (by omega) hok).mono ?_
  rintro e w' ⟨b, rfl, ht, F, hst, _, _⟩
  exact ⟨b, rfl, ht.below hN hM, F, hst⟩
theorem Sg.sameCopy {g' : Nat} (h : Sg w b g s D n t A) (hc : ∃ D2 M2 R2, DkAt w g' D2 M2 R2 ∧ D2.last = D.last) : Calls Tryz.prog 28 #[.pointer (some ⟨g, 0, none⟩), .pointer (some ⟨g', 0, none⟩)] w fun e w' => e = .returned (.bool true) ∧ Below w.heap.size w w' := by
  obtain ⟨E, F, hs, _⟩ := h.sd
  obtain ⟨D2, M2, R2, h2, e⟩ := hc
  exact dkSame_any hs.dk h2 e.symm
end
end Go.Proofs.YtcpgbekcbaelpaaGreatDoor
/- The law of turning over: the walk. -/
namespace Go.Proofs.YtcpgbekcbaelpaaGreatDoor
open Go.RowKit Go.Shelf Go.Maps Wr
set_option linter.unusedVariables false
set_option linter.unusedSimpArgs false
theorem mod12 (a : Int) : ∃ m : Nat, wrap64 ((IntKind.u64.wrap a).tmod 12) = (m : Int) ∧ m < 12 := by
  have e1 : IntKind.u64.wrap a = a % 18446744073709551616 := rfl
  have h0 : 0 ≤ IntKind.u64.wrap a := by omega
  rw [Int.tmod_eq_emod_of_nonneg h0]
  refine ⟨(IntKind.u64.wrap a % 12).toNat, ?_, by omega⟩
  unfold wrap64
  omega
theorem Tn.mono {w : World} {g n : Nat} {s : St.Sto} {D : St.Dk} {t : Int} {A A' : Nat → Prop} (h : Tn w g s D n t A) (hA : ∀ k, A k → A' k) : Tn w g s D n t A' := by
  obtain ⟨E, h1, h2, h3⟩ := h.dsk
  exact { h with dsk := ⟨E, h1, fun k hk => hA k (h2 k hk), h3⟩ }
def TuI (W1 : World) (g K : Nat) (o : St.Objs) (nx : Int) (gk : Nat) (s8 s12 : Value) (X : World) : Prop :=
  ∃ (i b : Nat) (s : St.Sto) (D : St.Dk), s12 = .int .i64 (i : Int) ∧ i + gk = K ∧ s8 = .pointer (some ⟨b, 0, none⟩) ∧ Sg X b g s D 40 (2 + (i : Int)) (fun k => W1.heap.size ≤ k) ∧ (s.objs = o ∧ s.next = nx ∧ s.count = 10 ∧ s.each = 14) ∧ Below W1.heap.size W1 X
set_option maxRecDepth 100000 in
set_option maxHeartbeats 8000000 in
theorem storeTurns_walk (wd nn : Int) (cs : List CG) (ns ps : List Int) (vc vn vp : Value) (w : World) (hT : Half w) (hc : ChsAt w (fun b => b < w.heap.size) vc cs) (hn : IntsAt w vn ns) (hp : IntsAt w vp ps) :
    Calls Tryz.prog 6 #[.agg #[.int .i64 wd, vc, .int .i64 nn], vn, vp] w fun e w' => e = .returned (.bool true) ∧ Below w.heap.size w w' := by
  obtain ⟨ac, cc, rfl, hmx⟩ := hc.form
  obtain ⟨an, cn, rfl, _, hcn⟩ := hn.form
  obtain ⟨m, hm⟩ : ∃ m, cs.length = m := ⟨_, rfl⟩
  obtain ⟨n, hnn⟩ : ∃ n, ns.length = n := ⟨_, rfl⟩
  rw [hm] at hc ⊢
  have HNL : Hid (ns.length = n ∧ n ≤ maxLen) := ⟨hnn, by omega⟩
  rw [hnn] at hn ⊢
  have HML : Hid (cs.length = m) := hm
  have HB0 : Hid (Below w.heap.size w (w.alloc (.cells #[.int .i64 wd, .slice ac m cc, .int .i64 nn] 57))) := (Below.refl _ w).alloc (Nat.le_refl _) _
  have HZ0 : Hid ((w.alloc (.cells #[.int .i64 wd, .slice ac m cc, .int .i64 nn] 57)).heap.size = w.heap.size + 1) := size_alloc _ _
  have HX0 : Hid ((w.alloc (.cells #[.int .i64 wd, .slice ac m cc, .int .i64 nn] 57)).heap[w.heap.size]? = some (.cells #[.int .i64 wd, .slice ac m cc, .int .i64 nn] 57)) := heap_alloc_new w _
  have HT := Lib.hid hT
  have HC := Lib.hid hc
  have HN := Lib.hid hn
  have HP := Lib.hid hp
  have hvp : ∀ a n c, vp = .slice (some a) n c → ps ≠ [] → a.block < w.heap.size := fun a n c e hne => by
    obtain ⟨x, l, rfl⟩ : ∃ x l, ps = x :: l := by
      cases ps with
      | nil => exact absurd rfl hne
      | cons x l => exact ⟨x, l, rfl⟩
    subst e
    obtain ⟨g, o, e2, hg, _⟩ := hp.at (i := 0) (x := x) rfl
    cases e2
    exact hg
  clear hT hc hn hp hm hnn hmx hcn
  go_enter Tryz.func6, Tryz.ntmps6
  go_upto_region 1 with fail
  generalize w.alloc (.cells #[.int .i64 wd, .slice ac m cc, .int .i64 nn] 57) = W1 at *
  have HBX : Hid (∀ X, Below W1.heap.size W1 X → X.cell? ⟨w.heap.size, 1, none⟩ = some (.slice ac m cc)) := fun X hX => by
    have h1 := (hX.block _ (lt_of_block HX0.out)).trans HX0.out
    simp [World.cell?, h1]
  have HWW : Hid (∀ X, Below W1.heap.size W1 X → Below w.heap.size w X) := fun X hX => HB0.out.trans (hX.mono (by have := HZ0.out; omega))
  have HT1 : Hid (Half W1) := HT.out.below HB0.out
  obtain ⟨l2, hl2⟩ : ∃ l2, (cs.take 12).map tmC = l2 := ⟨_, rfl⟩
  obtain ⟨l4, hl4⟩ : ∃ l4, l2.map tmC = l4 := ⟨_, rfl⟩
  have HL : Hid (l2.length ≤ 12 ∧ l4.length ≤ 12) := by
    have h1 : l2.length ≤ 12 := by rw [← hl2, List.length_map, List.length_take]; omega
    exact ⟨h1, by rw [← hl4, List.length_map]; exact h1⟩
  have HL2 := Lib.hid hl2
  have HL4 := Lib.hid hl4
  clear hl2 hl4
  have HA : Hid (¬ (fun k => W1.heap.size ≤ k) 0) := Lib.hid (by have h1 := HT1.out.lt; dsimp only; omega)
  have x1 := HBX.out W1 (Below.refl _ _)
  have HFEW : Hid (∀ X, Below W1.heap.size W1 X → Calls Tryz.prog 24 #[.slice ac m cc] X fun e w' => ∃ v', e = .returned v' ∧ OwC 45 w' X.heap.size v' l2 ∧ Below X.heap.size X w') := fun X hX => by
    have h1 := few_any X (fun b => b < w.heap.size) (.slice ac m cc) cs (HC.out.below (HWW.out X hX) (fun b hb => hb)) (fun b hb => Nat.lt_of_lt_of_le hb (HWW.out X hX).size)
    rw [HL2.out] at h1
    exact h1
  clear x1
  go_upto_region 4 with (first
    | (go_at_call 9; (with_reducible refine (fresh_any HT1.out).mono ?_); rintro e w1 ⟨g, b, s, D, rfl, hb, hs, e1, e2, e3, e4⟩; have HB1 := Lib.hid hb; have HS1 := Lib.hid hs; have HE1 : Hid (s.objs = [] ∧ s.next = 1 ∧ s.count = 10 ∧ s.each = 14) := ⟨e1, e2, e3, e4⟩; clear hb hs e1 e2 e3 e4)
    | (go_at_call 10; (with_reducible refine (stores_any (HT1.out.below HB1.out)).mono ?_); rintro e w2 ⟨rfl, hb⟩; have HB2 : Hid (Below W1.heap.size W1 w2) := HB1.out.trans (hb.mono HB1.out.size); have HS2 := Lib.hid (HS1.out.below hb); have x2 := HBX.out w2 (HB1.out.trans (hb.mono HB1.out.size)); clear hb)
    | (go_at_call 24; go_loud ((with_reducible refine (HFEW.out w2 HB2.out).mono ?_); rintro e w3 ⟨v3, rfl, hr, hb⟩; have HR3 := Lib.hid hr; have HB3 : Hid (Below W1.heap.size W1 w3) := HB2.out.trans (hb.mono HB2.out.size); have HS3 := Lib.hid (HS2.out.below hb); clear hr hb))
    | (go_at_call 17; go_loud (have hq := to_any w3 _ v3 l2 HR3.out.chs (fun b hb => hb.2) (by have := HL.out; omega); rw [HL4.out] at hq; (with_reducible refine hq.mono ?_); clear hq; rintro e w4 ⟨v4, rfl, hr, hb⟩; have HR4 := Lib.hid hr; have HB4 : Hid (Below W1.heap.size W1 w4) := HB3.out.trans (hb.mono HB3.out.size); have HS4 := Lib.hid (HS3.out.below hb); clear hr hb)))
  by_cases hne : l4 = []
  · subst hne
    obtain ⟨a4, c4, rfl⟩ := HR4.out.form
    refine (apply_none b a4 c4 w4).mono ?_
    rintro e w5 ⟨rfl, hw⟩
    obtain ⟨s5, hs5⟩ : ∃ s5, s = s5 := ⟨_, rfl⟩
    have HS5 : Hid (Sg w5 b g s5 D 40 2 (fun k => W1.heap.size ≤ k)) := by rw [← hw, ← hs5]; exact HS4.out.later (by omega)
    have HC5 : Hid (s5.count = 10 ∧ s5.each = 14) := by rw [← hs5]; exact HE1.out.2.2
    have HB5 : Hid (Below W1.heap.size W1 w5) := by rw [← hw]; exact HB4.out
    clear hw hs5
    go_upto_region 4 with fail
    obtain ⟨o, ho⟩ : ∃ o, s5.objs = o := ⟨_, rfl⟩
    obtain ⟨nx, hnx⟩ : ∃ nx, s5.next = nx := ⟨_, rfl⟩
    obtain ⟨M, hM⟩ : ∃ M, o.length = M := ⟨_, rfl⟩
    have HE6 : Hid (s5.objs = o ∧ s5.next = nx ∧ s5.count = 10 ∧ s5.each = 14) := ⟨ho, hnx, HC5.out⟩
    have HM := Lib.hid hM
    clear ho hnx hM
    go_upto_region 6 with (first
      | (go_at_call 15; go_loud (have hq := HS5.out.ids; rw [HE6.out.1] at hq; (with_reducible refine hq.mono ?_); clear hq; rintro e w6 ⟨v6, rfl, hr, _, hb⟩; obtain ⟨a6, c6, hv6, _⟩ := hr.form; rw [List.length_map, HM.out] at hv6; subst hv6; have HB6 : Hid (Below W1.heap.size W1 w6) := HB5.out.trans (hb.mono HB5.out.size); have HS6 := Lib.hid (HS5.out.below hb); clear hr hb))
      | (go_at_call 14; go_loud (have hq := HS6.out.next; rw [HE6.out.2.1] at hq; (with_reducible refine hq.mono ?_); clear hq; rintro e w' ⟨rfl, rfl⟩)))
    go_wp2
    obtain ⟨K, hK⟩ : ∃ K, min n 10 = K := ⟨_, rfl⟩
    have HK : Hid (K ≤ n ∧ K ≤ 10 ∧ (K = n ∨ K = 10)) := Lib.hid (by omega)
    clear hK
    go_loopg [8, 12, 13, 14, 15, 16, 17] K (fun gk s8 s12 s13 s14 s15 s16 s17 wr => TuI W1 g K o nx gk s8 s12 wr)
    case atStart => exact ⟨0, b, s5, _, rfl, by omega, rfl, HS6.out, HE6.out, HB6.out⟩
    case round =>
      obtain ⟨i, b, s, D, rfl, hik, rfl, hs, he, hb⟩ := hrel
      have HS := Lib.hid hs
      have HE := Lib.hid he
      have HB := Lib.hid hb
      have HIK := Lib.hid hik
      have i0 : (0 : Int) ≤ (i : Int) := by omega
      clear hs he hb
      by_cases hlt : i < K
      · have hkn := HK.out
        have i1 : (i : Int) < (n : Int) := by omega
        have i2 : (i : Int) < 10 := by omega
        have HLT : Hid (i < K ∧ i < 10) := Lib.hid (by omega)
        obtain ⟨x, hx⟩ : ∃ x, ns[i]? = some x := ⟨_, List.getElem?_eq_getElem (by have := HNL.out.1; omega)⟩
        obtain ⟨gi, oi, rfl, hgl, hgc⟩ := HN.out.at hx
        have hc1 := ((HWW.out wr HB.out).cell (p := ⟨gi, oi + i, none⟩) hgl).trans hgc
        obtain ⟨m12, hm1, hm2⟩ := mod12 x
        have HM12 : Hid ((Lit.int .i64 (m12 : Int)).wf = true) := WalkArith.wf_i64 (by omega)
        clear hik hlt hkn hx hgl hgc hm2
        go_upto_region 10 with (go_at_call 25; go_loud (have hq := HS.out.arm (m12 : Int) HM12.out; (with_reducible refine hq.mono ?_); clear hq; rintro e wa ⟨rfl, ht, Da, ha⟩; have HTA := Lib.hid ht; have HAM := Lib.hid ha; clear ht ha))
        clear hm1 hc1
        go_upto_region 14 with (first
          | (go_at_call 12; go_loud (have hq := HAM.out.checkpoint (by have := HLT.out; omega); (with_reducible refine hq.mono ?_); clear hq; rintro e wb ⟨xe, rfl, hxe, ht, hh, E, Db, hd, hE, hEh, hwl, hlv⟩; have HXE := Lib.hid hxe; have HZA := Lib.hid (Nat.le_trans HB.out.size HTA.out.size); have HBA : Hid (Below W1.heap.size W1 wa) := HB.out.trans (HTA.out.below HB.out.size (fun _ h => h)); have HBB : Hid (Below W1.heap.size W1 wb) := HBA.out.trans (ht.below HBA.out.size (fun _ h => h)); have HEN : Hid (∀ k, E k → W1.heap.size ≤ k) := (fun k hk => by rcases hE k hk with h | h; exact h; have := HBA.out.size; omega); have HH := Lib.hid hh; have HDB := Lib.hid hd; have HEH := Lib.hid hEh; have HWL := Lib.hid hwl; have HLV := Lib.hid hlv; clear hxe ht hh hd hE hEh hwl hlv))
          | (go_at_call 26; go_loud (have hq := crash_tn (s := s) (n := 40) (picks := ps) HDB.out (by have := HWL.out; omega) HH.out HEH.out (HLV.out ps) (by omega) (HP.out.below (HWW.out wb HBB.out)) (fun hne a n c e => by have h1 := hvp a n c e hne; have h2 := HBB.out.size; have h3 := HZ0.out; exact ⟨by omega, fun e2 => by have := HEN.out _ e2; omega⟩); (with_reducible refine hq.mono ?_); clear hq; rintro e wc ⟨rfl, ht, htn⟩; have HTN : Hid (Tn wc g s (Db.crash ps) 40 (2 + (i : Int)) (fun k => W1.heap.size ≤ k)) := htn.mono (fun k hk => by rcases hk with h | h; exact HEN.out k h; have := HBB.out.size; show _ ≤ _; omega); have HBC : Hid (Below W1.heap.size W1 wc) := HBB.out.trans (ht.below HBB.out.size HEN.out); clear ht htn))
          | (go_at_call 13; have hq := HTN.out.opened (log := 10) (by have := HLT.out; omega) (by rw [HE.out.2.2.1, HE.out.2.2.2]; exact lay_40); (with_reducible refine hq.mono ?_); clear hq; rintro e wd ⟨b', s', D', rfl, ht, hs, e1, e2, e3, e4⟩; have HBD : Hid (Below W1.heap.size W1 wd) := HBC.out.trans (ht.below HBC.out.size (fun _ h => h)); have HSD : Hid (Sg wd b' g s' D' 40 (2 + (i : Int) + 1) (fun k => W1.heap.size ≤ k)) := hs.mono (fun k hk => by rcases hk with h | h; exact h; have := HBC.out.size; show _ ≤ _; omega); have HED : Hid (s'.objs = o ∧ s'.next = nx ∧ s'.count = 10 ∧ s'.each = 14) := ⟨e1.trans HE.out.1, e2.trans HE.out.2.1, e3.trans HE.out.2.2.1, e4.trans HE.out.2.2.2⟩; clear ht hs e1 e2 e3 e4)
          | (go_at_call 27; go_loud (have hq := HSD.out.copy; (with_reducible refine hq.mono ?_); clear hq; rintro e we ⟨g2, rfl, hb, hcp, _⟩; have HCP := Lib.hid hcp; have HBE := Lib.hid hb; clear hb hcp))
          | (go_at_call 13; go_loud (have hq := HCP.out.opened (log := 10) HBE.out.size (by rw [HED.out.2.2.1, HED.out.2.2.2]; exact lay_40); (with_reducible refine hq.mono ?_); clear hq; rintro e wf ⟨b2, rfl, hb, F2, mb2, pl2, ov2, hst⟩; have HST2 := Lib.hid hst; have HBF : Hid (Below wd.heap.size wd wf) := HBE.out.trans hb; have HSF := Lib.hid (HSD.out.below HBF.out); clear hb hst)))
        have HOV : Hid (ov2.length ≤ 1000000000) := Lib.hid (by
          have h1 := HSD.out.facts.ob.cnt
          rw [← HST2.out.ovo, ovO_len] at h1
          omega)
        rcases HXE.out with hx0 | hx0
        · subst hx0
          go_wp2_with (first
            | (go_at_call 14; have hq := HSF.out.next; rw [HED.out.2.1] at hq; (with_reducible refine hq.mono ?_); clear hq; rintro e w' ⟨rfl, rfl⟩)
            | (go_at_call 14; go_loud (have hq := next_any HST2.out; rw [HED.out.2.1] at hq; (with_reducible refine hq.mono ?_); clear hq; rintro e w' ⟨rfl, rfl⟩))
            | (go_at_call 15; have hq := HSF.out.ids; rw [HED.out.1] at hq; (with_reducible refine hq.mono ?_); clear hq; rintro e wg ⟨v7, rfl, hr, _, hb⟩; obtain ⟨a7, c7, hv7, _⟩ := hr.form; rw [List.length_map, HM.out] at hv7; subst hv7; have HBG := Lib.hid hb; clear hr hb)
            | (go_at_call 15; go_loud (have hq := ids_any (HST2.out.below HBG.out) HOV.out; rw [HED.out.1] at hq; (with_reducible refine hq.mono ?_); clear hq; rintro e wh ⟨v8, rfl, hr, _, hb⟩; obtain ⟨a8, c8, hv8, _⟩ := hr.form; rw [List.length_map, HM.out] at hv8; subst hv8; have HBH : Hid (Below wf.heap.size wf wh) := HBG.out.trans (hb.mono HBG.out.size); clear hr hb)))
          go_roundg (gk - 1)
          case measure => have := HIK.out; have := HLT.out; omega
          case rel => exact ⟨i + 1, b', s', D', by go_num, by have := HIK.out; have := HLT.out; omega, rfl, (HSF.out.below HBH.out).later (by omega), HED.out, HBD.out.trans ((HBF.out.trans (HBH.out.mono HBF.out.size)).mono HBD.out.size)⟩
        · subst hx0
          go_wp2_with (first
            | (go_at_call 14; have hq := HSF.out.next; rw [HED.out.2.1] at hq; (with_reducible refine hq.mono ?_); clear hq; rintro e w' ⟨rfl, rfl⟩)
            | (go_at_call 14; go_loud (have hq := next_any HST2.out; rw [HED.out.2.1] at hq; (with_reducible refine hq.mono ?_); clear hq; rintro e w' ⟨rfl, rfl⟩))
            | (go_at_call 15; have hq := HSF.out.ids; rw [HED.out.1] at hq; (with_reducible refine hq.mono ?_); clear hq; rintro e wg ⟨v7, rfl, hr, _, hb⟩; obtain ⟨a7, c7, hv7, _⟩ := hr.form; rw [List.length_map, HM.out] at hv7; subst hv7; have HBG := Lib.hid hb; clear hr hb)
            | (go_at_call 15; go_loud (have hq := ids_any (HST2.out.below HBG.out) HOV.out; rw [HED.out.1] at hq; (with_reducible refine hq.mono ?_); clear hq; rintro e wh ⟨v8, rfl, hr, _, hb⟩; obtain ⟨a8, c8, hv8, _⟩ := hr.form; rw [List.length_map, HM.out] at hv8; subst hv8; have HBH : Hid (Below wf.heap.size wf wh) := HBG.out.trans (hb.mono HBG.out.size); clear hr hb)))
          go_roundg (gk - 1)
          case measure => have := HIK.out; have := HLT.out; omega
          case rel => exact ⟨i + 1, b', s', D', by go_num, by have := HIK.out; have := HLT.out; omega, rfl, (HSF.out.below HBH.out).later (by omega), HED.out, HBD.out.trans ((HBF.out.trans (HBH.out.mono HBF.out.size)).mono HBD.out.size)⟩
      · obtain rfl : K = i := by omega
        have hkk := HK.out
        have hex : ¬ (K : Int) < (n : Int) ∨ ((K : Int) < (n : Int) ∧ ¬ (K : Int) < 10) := by omega
        clear hik hlt hkk
        rcases hex with x1 | ⟨x1, x2⟩
        · go_wp2_with (first
            | (go_at_call 27; go_loud (have hq := HS.out.copy; (with_reducible refine hq.mono ?_); clear hq; rintro e we ⟨g2, rfl, hb, _, hcp⟩; have HCP := Lib.hid hcp; have HBE := Lib.hid hb; clear hb hcp))
            | (go_at_call 28; go_loud (have hq := (HS.out.below HBE.out).sameCopy HCP.out; (with_reducible refine hq.mono ?_); clear hq; rintro e wf ⟨rfl, hb⟩; have HBF := Lib.hid (HBE.out.trans (hb.mono HBE.out.size)); clear hb)))
          go_ret
          exact ⟨rfl, HWW.out _ (HB.out.trans (HBF.out.mono HB.out.size))⟩
        · go_wp2_with (first
            | (go_at_call 27; go_loud (have hq := HS.out.copy; (with_reducible refine hq.mono ?_); clear hq; rintro e we ⟨g2, rfl, hb, _, hcp⟩; have HCP := Lib.hid hcp; have HBE := Lib.hid hb; clear hb hcp))
            | (go_at_call 28; go_loud (have hq := (HS.out.below HBE.out).sameCopy HCP.out; (with_reducible refine hq.mono ?_); clear hq; rintro e wf ⟨rfl, hb⟩; have HBF := Lib.hid (HBE.out.trans (hb.mono HBE.out.size)); clear hb)))
          go_ret
          exact ⟨rfl, HWW.out _ (HB.out.trans (HBF.out.mono HB.out.size))⟩
  · have HNE := Lib.hid hne
    have hap := HS4.out.apply (by omega) HR4.out.chs (fun k hk => hk.2) hne (by have := HL.out; omega)
    cases hq : s.apT (l4.map chOf) with
    | error x =>
      rw [hq] at hap
      have hxz := apT_ne hq
      have z1 : (x != 0) = true := by simpa using hxz
      refine hap.mono ?_
      rintro e w5 ⟨rfl, _, hb5⟩
      have HB5 : Hid (Below W1.heap.size W1 w5) := HB4.out.trans (hb5.mono HB4.out.size)
      clear hap hq hxz hne hb5
      go_wp2_with (go_at_call 10; go_loud ((with_reducible refine (stores_any (HT1.out.below HB5.out)).mono ?_); rintro e w6 ⟨rfl, hb⟩; have HB6 := Lib.hid hb; clear hb))
      go_ret
      exact ⟨rfl, HWW.out _ (HB5.out.trans (HB6.out.mono HB5.out.size))⟩
    | ok p =>
      rw [hq] at hap
      refine hap.mono ?_
      rintro e w5 ⟨rfl, ht5, s5, D5, hs5, e1, e2, e3, e4⟩
      have HS5 : Hid (Sg w5 b g s5 D5 40 2 (fun k => W1.heap.size ≤ k)) := (hs5.mono (fun k hk => by rcases hk with h | h; exact h; have := HB4.out.size; show _ ≤ _; omega)).later (by omega)
      have HC5 : Hid (s5.count = 10 ∧ s5.each = 14) := ⟨e3.trans HE1.out.2.2.1, e4.trans HE1.out.2.2.2⟩
      have HB5 : Hid (Below W1.heap.size W1 w5) := HB4.out.trans (ht5.below HB4.out.size (fun _ h => h))
      clear hap hq hne ht5 hs5 e1 e2 e3 e4
      go_upto_region 4 with fail
      obtain ⟨o, ho⟩ : ∃ o, s5.objs = o := ⟨_, rfl⟩
      obtain ⟨nx, hnx⟩ : ∃ nx, s5.next = nx := ⟨_, rfl⟩
      obtain ⟨M, hM⟩ : ∃ M, o.length = M := ⟨_, rfl⟩
      have HE6 : Hid (s5.objs = o ∧ s5.next = nx ∧ s5.count = 10 ∧ s5.each = 14) := ⟨ho, hnx, HC5.out⟩
      have HM := Lib.hid hM
      clear ho hnx hM
      go_upto_region 6 with (first
        | (go_at_call 15; go_loud (have hq := HS5.out.ids; rw [HE6.out.1] at hq; (with_reducible refine hq.mono ?_); clear hq; rintro e w6 ⟨v6, rfl, hr, _, hb⟩; obtain ⟨a6, c6, hv6, _⟩ := hr.form; rw [List.length_map, HM.out] at hv6; subst hv6; have HB6 : Hid (Below W1.heap.size W1 w6) := HB5.out.trans (hb.mono HB5.out.size); have HS6 := Lib.hid (HS5.out.below hb); clear hr hb))
        | (go_at_call 14; go_loud (have hq := HS6.out.next; rw [HE6.out.2.1] at hq; (with_reducible refine hq.mono ?_); clear hq; rintro e w' ⟨rfl, rfl⟩)))
      go_wp2
      obtain ⟨K, hK⟩ : ∃ K, min n 10 = K := ⟨_, rfl⟩
      have HK : Hid (K ≤ n ∧ K ≤ 10 ∧ (K = n ∨ K = 10)) := Lib.hid (by omega)
      clear hK
      go_loopg [8, 12, 13, 14, 15, 16, 17] K (fun gk s8 s12 s13 s14 s15 s16 s17 wr => TuI W1 g K o nx gk s8 s12 wr)
      case atStart => exact ⟨0, b, s5, _, rfl, by omega, rfl, HS6.out, HE6.out, HB6.out⟩
      case round =>
        obtain ⟨i, b, s, D, rfl, hik, rfl, hs, he, hb⟩ := hrel
        have HS := Lib.hid hs
        have HE := Lib.hid he
        have HB := Lib.hid hb
        have HIK := Lib.hid hik
        have i0 : (0 : Int) ≤ (i : Int) := by omega
        clear hs he hb
        by_cases hlt : i < K
        · have hkn := HK.out
          have i1 : (i : Int) < (n : Int) := by omega
          have i2 : (i : Int) < 10 := by omega
          have HLT : Hid (i < K ∧ i < 10) := Lib.hid (by omega)
          obtain ⟨x, hx⟩ : ∃ x, ns[i]? = some x := ⟨_, List.getElem?_eq_getElem (by have := HNL.out.1; omega)⟩
          obtain ⟨gi, oi, rfl, hgl, hgc⟩ := HN.out.at hx
          have hc1 := ((HWW.out wr HB.out).cell (p := ⟨gi, oi + i, none⟩) hgl).trans hgc
          obtain ⟨m12, hm1, hm2⟩ := mod12 x
          have HM12 : Hid ((Lit.int .i64 (m12 : Int)).wf = true) := WalkArith.wf_i64 (by omega)
          clear hik hlt hkn hx hgl hgc hm2
          go_upto_region 10 with (go_at_call 25; go_loud (have hq := HS.out.arm (m12 : Int) HM12.out; (with_reducible refine hq.mono ?_); clear hq; rintro e wa ⟨rfl, ht, Da, ha⟩; have HTA := Lib.hid ht; have HAM := Lib.hid ha; clear ht ha))
          clear hm1 hc1
          go_upto_region 14 with (first
            | (go_at_call 12; go_loud (have hq := HAM.out.checkpoint (by have := HLT.out; omega); (with_reducible refine hq.mono ?_); clear hq; rintro e wb ⟨xe, rfl, hxe, ht, hh, E, Db, hd, hE, hEh, hwl, hlv⟩; have HXE := Lib.hid hxe; have HZA := Lib.hid (Nat.le_trans HB.out.size HTA.out.size); have HBA : Hid (Below W1.heap.size W1 wa) := HB.out.trans (HTA.out.below HB.out.size (fun _ h => h)); have HBB : Hid (Below W1.heap.size W1 wb) := HBA.out.trans (ht.below HBA.out.size (fun _ h => h)); have HEN : Hid (∀ k, E k → W1.heap.size ≤ k) := (fun k hk => by rcases hE k hk with h | h; exact h; have := HBA.out.size; omega); have HH := Lib.hid hh; have HDB := Lib.hid hd; have HEH := Lib.hid hEh; have HWL := Lib.hid hwl; have HLV := Lib.hid hlv; clear hxe ht hh hd hE hEh hwl hlv))
            | (go_at_call 26; go_loud (have hq := crash_tn (s := s) (n := 40) (picks := ps) HDB.out (by have := HWL.out; omega) HH.out HEH.out (HLV.out ps) (by omega) (HP.out.below (HWW.out wb HBB.out)) (fun hne a n c e => by have h1 := hvp a n c e hne; have h2 := HBB.out.size; have h3 := HZ0.out; exact ⟨by omega, fun e2 => by have := HEN.out _ e2; omega⟩); (with_reducible refine hq.mono ?_); clear hq; rintro e wc ⟨rfl, ht, htn⟩; have HTN : Hid (Tn wc g s (Db.crash ps) 40 (2 + (i : Int)) (fun k => W1.heap.size ≤ k)) := htn.mono (fun k hk => by rcases hk with h | h; exact HEN.out k h; have := HBB.out.size; show _ ≤ _; omega); have HBC : Hid (Below W1.heap.size W1 wc) := HBB.out.trans (ht.below HBB.out.size HEN.out); clear ht htn))
            | (go_at_call 13; have hq := HTN.out.opened (log := 10) (by have := HLT.out; omega) (by rw [HE.out.2.2.1, HE.out.2.2.2]; exact lay_40); (with_reducible refine hq.mono ?_); clear hq; rintro e wd ⟨b', s', D', rfl, ht, hs, e1, e2, e3, e4⟩; have HBD : Hid (Below W1.heap.size W1 wd) := HBC.out.trans (ht.below HBC.out.size (fun _ h => h)); have HSD : Hid (Sg wd b' g s' D' 40 (2 + (i : Int) + 1) (fun k => W1.heap.size ≤ k)) := hs.mono (fun k hk => by rcases hk with h | h; exact h; have := HBC.out.size; show _ ≤ _; omega); have HED : Hid (s'.objs = o ∧ s'.next = nx ∧ s'.count = 10 ∧ s'.each = 14) := ⟨e1.trans HE.out.1, e2.trans HE.out.2.1, e3.trans HE.out.2.2.1, e4.trans HE.out.2.2.2⟩; clear ht hs e1 e2 e3 e4)
            | (go_at_call 27; go_loud (have hq := HSD.out.copy; (with_reducible refine hq.mono ?_); clear hq; rintro e we ⟨g2, rfl, hb, hcp, _⟩; have HCP := Lib.hid hcp; have HBE := Lib.hid hb; clear hb hcp))
            | (go_at_call 13; go_loud (have hq := HCP.out.opened (log := 10) HBE.out.size (by rw [HED.out.2.2.1, HED.out.2.2.2]; exact lay_40); (with_reducible refine hq.mono ?_); clear hq; rintro e wf ⟨b2, rfl, hb, F2, mb2, pl2, ov2, hst⟩; have HST2 := Lib.hid hst; have HBF : Hid (Below wd.heap.size wd wf) := HBE.out.trans hb; have HSF := Lib.hid (HSD.out.below HBF.out); clear hb hst)))
          have HOV : Hid (ov2.length ≤ 1000000000) := Lib.hid (by
            have h1 := HSD.out.facts.ob.cnt
            rw [← HST2.out.ovo, ovO_len] at h1
            omega)
          rcases HXE.out with hx0 | hx0
          · subst hx0
            go_wp2_with (first
              | (go_at_call 14; have hq := HSF.out.next; rw [HED.out.2.1] at hq; (with_reducible refine hq.mono ?_); clear hq; rintro e w' ⟨rfl, rfl⟩)
              | (go_at_call 14; go_loud (have hq := next_any HST2.out; rw [HED.out.2.1] at hq; (with_reducible refine hq.mono ?_); clear hq; rintro e w' ⟨rfl, rfl⟩))
              | (go_at_call 15; have hq := HSF.out.ids; rw [HED.out.1] at hq; (with_reducible refine hq.mono ?_); clear hq; rintro e wg ⟨v7, rfl, hr, _, hb⟩; obtain ⟨a7, c7, hv7, _⟩ := hr.form; rw [List.length_map, HM.out] at hv7; subst hv7; have HBG := Lib.hid hb; clear hr hb)
              | (go_at_call 15; go_loud (have hq := ids_any (HST2.out.below HBG.out) HOV.out; rw [HED.out.1] at hq; (with_reducible refine hq.mono ?_); clear hq; rintro e wh ⟨v8, rfl, hr, _, hb⟩; obtain ⟨a8, c8, hv8, _⟩ := hr.form; rw [List.length_map, HM.out] at hv8; subst hv8; have HBH : Hid (Below wf.heap.size wf wh) := HBG.out.trans (hb.mono HBG.out.size); clear hr hb)))
            go_roundg (gk - 1)
            case measure => have := HIK.out; have := HLT.out; omega
            case rel => exact ⟨i + 1, b', s', D', by go_num, by have := HIK.out; have := HLT.out; omega, rfl, (HSF.out.below HBH.out).later (by omega), HED.out, HBD.out.trans ((HBF.out.trans (HBH.out.mono HBF.out.size)).mono HBD.out.size)⟩
          · subst hx0
            go_wp2_with (first
              | (go_at_call 14; have hq := HSF.out.next; rw [HED.out.2.1] at hq; (with_reducible refine hq.mono ?_); clear hq; rintro e w' ⟨rfl, rfl⟩)
              | (go_at_call 14; go_loud (have hq := next_any HST2.out; rw [HED.out.2.1] at hq; (with_reducible refine hq.mono ?_); clear hq; rintro e w' ⟨rfl, rfl⟩))
              | (go_at_call 15; have hq := HSF.out.ids; rw [HED.out.1] at hq; (with_reducible refine hq.mono ?_); clear hq; rintro e wg ⟨v7, rfl, hr, _, hb⟩; obtain ⟨a7, c7, hv7, _⟩ := hr.form; rw [List.length_map, HM.out] at hv7; subst hv7; have HBG := Lib.hid hb; clear hr hb)
              | (go_at_call 15; go_loud (have hq := ids_any (HST2.out.below HBG.out) HOV.out; rw [HED.out.1] at hq; (with_reducible refine hq.mono ?_); clear hq; rintro e wh ⟨v8, rfl, hr, _, hb⟩; obtain ⟨a8, c8, hv8, _⟩ := hr.form; rw [List.length_map, HM.out] at hv8; subst hv8; have HBH : Hid (Below wf.heap.size wf wh) := HBG.out.trans (hb.mono HBG.out.size); clear hr hb)))
            go_roundg (gk - 1)
            case measure => have := HIK.out; have := HLT.out; omega
            case rel => exact ⟨i + 1, b', s', D', by go_num, by have := HIK.out; have := HLT.out; omega, rfl, (HSF.out.below HBH.out).later (by omega), HED.out, HBD.out.trans ((HBF.out.trans (HBH.out.mono HBF.out.size)).mono HBD.out.size)⟩
        · obtain rfl : K = i := by omega
          have hkk := HK.out
          have hex : ¬ (K : Int) < (n : Int) ∨ ((K : Int) < (n : Int) ∧ ¬ (K : Int) < 10) := by omega
          clear hik hlt hkk
          rcases hex with x1 | ⟨x1, x2⟩
          · go_wp2_with (first
              | (go_at_call 27; go_loud (have hq := HS.out.copy; (with_reducible refine hq.mono ?_); clear hq; rintro e we ⟨g2, rfl, hb, _, hcp⟩; have HCP := Lib.hid hcp; have HBE := Lib.hid hb; clear hb hcp))
              | (go_at_call 28; go_loud (have hq := (HS.out.below HBE.out).sameCopy HCP.out; (with_reducible refine hq.mono ?_); clear hq; rintro e wf ⟨rfl, hb⟩; have HBF := Lib.hid (HBE.out.trans (hb.mono HBE.out.size)); clear hb)))
            go_ret
            exact ⟨rfl, HWW.out _ (HB.out.trans (HBF.out.mono HB.out.size))⟩
          · go_wp2_with (first
              | (go_at_call 27; go_loud (have hq := HS.out.copy; (with_reducible refine hq.mono ?_); clear hq; rintro e we ⟨g2, rfl, hb, _, hcp⟩; have HCP := Lib.hid hcp; have HBE := Lib.hid hb; clear hb hcp))
              | (go_at_call 28; go_loud (have hq := (HS.out.below HBE.out).sameCopy HCP.out; (with_reducible refine hq.mono ?_); clear hq; rintro e wf ⟨rfl, hb⟩; have HBF := Lib.hid (HBE.out.trans (hb.mono HBE.out.size)); clear hb)))
            go_ret
            exact ⟨rfl, HWW.out _ (HB.out.trans (HBF.out.mono HB.out.size))⟩
end Go.Proofs.YtcpgbekcbaelpaaGreatDoor
