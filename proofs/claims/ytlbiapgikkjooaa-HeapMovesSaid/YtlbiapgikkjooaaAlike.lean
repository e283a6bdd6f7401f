/- Both heaps are alike: the law's function alike. -/
import Derived.Test.YtlbiapgikkjooaaDuo2
namespace Go.Proofs.Ytlbiapgikkjooaa
open Go.RowKit Go.Maps Hp
set_option linter.unusedSimpArgs false
set_option linter.unusedSectionVars false
set_option linter.unusedVariables false
attribute [local go_sem ↓] Go.wp_at_zero Go.wp_at_succ

section
variable {N : Bd} {m c : Nat} {w0 w w' : World} {p q : Nat} {A B : AH} {st : List Int} {φ : Nat → Nat}
theorem below_drew {B : Nat} {a w : World} (h : Below B a w) : Below B a w.drew := below_drewN h 1
theorem calls_below {P : Program} {f : FuncId} {args : Array Value} {v : Value} {W : World} (h : Calls P f args W fun e w' => e = .returned v ∧ ∃ n, w' = W.drewN n) : Calls P f args W fun e w' => e = .returned v ∧ Below W.heap.size W w' :=
  h.mono fun e w' ⟨he, n, hn⟩ => ⟨he, by rw [hn]; exact below_drewN (Below.refl _ _) n⟩
theorem calls_below0 {P : Program} {f : FuncId} {args : Array Value} {v : Value} {W : World} (h : Calls P f args W fun e w' => e = .returned v ∧ W = w') : Calls P f args W fun e w' => e = .returned v ∧ Below W.heap.size W w' :=
  h.mono fun e w' ⟨he, hn⟩ => ⟨he, by rw [← hn]; exact Below.refl _ _⟩
set_option maxRecDepth 100000 in
set_option maxHeartbeats 1600000 in
theorem alike_imm (h : Duo N w0 p q A st φ m c B w) (hc : c ≤ 1000000) {n : Int} (hr : A.Ok ⟨false, n⟩) (deep : Nat) (hd : deep ≤ 1000) :
    Calls Try.prog 38 #[.pointer (some ⟨p, 0, none⟩), .pointer (some ⟨q, 0, none⟩), .int .i64 (2 * n + 1), rv ⟨false, n⟩, .int .i64 deep] w fun e w' => e = .returned (.bool true) ∧ Below w.heap.size w w' := by
  have IM : Hid (∀ W, Calls Try.prog 11 #[.int .i64 (2 * n + 1)] W fun e w' => e = .returned (.bool true) ∧ W = w') := fun W => by
    have := isImm_any (2 * n + 1) W
    rwa [show ((2 * n + 1) % 2 == 1) = true from by simp] at this
  have IN : Hid (∀ W, Calls Try.prog 12 #[.int .i64 (2 * n + 1)] W fun e w' => e = .returned (.int .i64 n) ∧ W = w') := fun W => by
    have := int_any (2 * n + 1) W
    rwa [show (2 * n + 1) / 2 = n from by omega] at this
  have hw : word φ ⟨false, n⟩ = 2 * n + 1 := rfl
  have KN : Hid (∀ W, Below w.heap.size w W → Calls Try.prog 28 #[.pointer (some ⟨p, 0, none⟩), .int .i64 (2 * n + 1)] W fun e w' => e = .returned (.int .i64 (-1)) ∧ Below W.heap.size W w') := fun W hW => calls_below (duo_kind (h.later hW) hr)
  have SZ : Hid (∀ W, Below w.heap.size w W → Calls Try.prog 29 #[.pointer (some ⟨p, 0, none⟩), .int .i64 (2 * n + 1)] W fun e w' => e = .returned (.int .i64 0) ∧ Below W.heap.size W w') := fun W hW => calls_below (duo_size (h.later hW) hr)
  have BY : Hid (∀ W, Below w.heap.size w W → Calls Try.prog 30 #[.pointer (some ⟨p, 0, none⟩), .int .i64 (2 * n + 1)] W fun e w' => e = .returned (.string ⟨#[]⟩) ∧ Below W.heap.size W w') := fun W hW => duo_bytes (h.later hW) hr
  clear h hr hw
  unfold rv
  go_enter Try.func38, Try.ntmps38
  go_wp2
  go_region_held3 (fun w' => w'.cell? ⟨w.heap.size, 0, none⟩ = some (.bool false) ∧ w'.cell? ⟨w.heap.size, 1, none⟩ = some (.int .i64 n)) (go_keep)
    (first | (go_at_call 11; refine (IM.out _).mono ?_; rintro e w5 ⟨rfl, rfl⟩))
  go_wp2
  go_region_held3 (fun w' => w'.cell? ⟨w.heap.size, 1, none⟩ = some (.int .i64 n)) (go_keep)
    (first
    | (go_at_call 12; refine (IN.out _).mono ?_; rintro e w5 ⟨rfl, rfl⟩)
    | (go_at_call 28; refine (KN.out _ (by repeat' first | exact (Below.refl _ _).alloc (Nat.le_refl _) _ | refine below_drew ?_)).mono ?_; rintro e w5 ⟨rfl, hb5⟩; have HB5 := Lib.hid hb5; obtain ⟨hc5, hf5⟩ := bcell hb5; have s5 : w.heap.size < w5.heap.size := (by have := hb5.size; simp at this; omega); clear hb5)
    | (go_at_call 29; refine (SZ.out _ ((below_drew (below_drew ((Below.refl _ _).alloc (Nat.le_refl _) _))).trans (HB5.out.mono (by simp)))).mono ?_; rintro e w6 ⟨rfl, hb6⟩; have HB6 := Lib.hid (HB5.out.trans (hb6.mono HB5.out.size)); obtain ⟨hc6, hf6⟩ := bcell hb6; have s6 : w.heap.size < w6.heap.size := (by have := hb6.size; omega); clear hb6)
    | (go_at_call 30; refine (BY.out _ ((below_drew (below_drew ((Below.refl _ _).alloc (Nat.le_refl _) _))).trans (HB6.out.mono (by simp)))).mono ?_; rintro e w7 ⟨rfl, hb7⟩; have HB7 := Lib.hid (HB6.out.trans (hb7.mono HB6.out.size)); obtain ⟨hc7, hf7⟩ := bcell hb7; clear hb7))
  go_wp2
  go_ret
  exact ⟨rfl, (below_drew (below_drew ((Below.refl _ _).alloc (Nat.le_refl _) _))).trans (HB7.out.mono (by simp))⟩
theorem keep3 {W w' : World} (hb : Below W.heap.size W w') {b : Nat} (hz : b < W.heap.size) {x y z : Value} (h0 : W.cell? ⟨b, 0, none⟩ = some x) (h1 : W.cell? ⟨b, 1, none⟩ = some y) (h3 : W.cell? ⟨b, 3, none⟩ = some z) :
    w'.cell? ⟨b, 0, none⟩ = some x ∧ w'.cell? ⟨b, 1, none⟩ = some y ∧ w'.cell? ⟨b, 3, none⟩ = some z ∧ b < w'.heap.size :=
  ⟨(hb.cell (p := ⟨b, 0, none⟩) hz).trans h0, (hb.cell (p := ⟨b, 1, none⟩) hz).trans h1, (hb.cell (p := ⟨b, 3, none⟩) hz).trans h3, Nat.lt_of_lt_of_le hz hb.size⟩
def AlLoop (w : World) (bo : Nat) (v : Value) (n : Nat) (gk : Nat) (s12 : Value) (wr : World) : Prop :=
  ∃ i : Nat, s12 = .int .i64 i ∧ i + gk = n ∧ Below w.heap.size w wr ∧ wr.cell? ⟨bo, 1, none⟩ = some v ∧ bo < wr.heap.size
set_option maxRecDepth 100000 in
set_option maxHeartbeats 3200000 in
theorem alike_obj (h : Duo N w0 p q A st φ m c B w) (hobjs : B.objs = A.objs) (hc : c ≤ 1000000) {j : Nat} (hr : A.Ok ⟨true, j⟩) (deep : Nat) (hd : deep ≤ 1000) (hph : φ j ≤ 4194304)
    (ih : 0 < deep → ∀ r, A.Ok r → ∀ W, Below w.heap.size w W → Calls Try.prog 38 #[.pointer (some ⟨p, 0, none⟩), .pointer (some ⟨q, 0, none⟩), .int .i64 (word φ r), rv r, .int .i64 ((deep - 1 : Nat) : Int)] W fun e w' => e = .returned (.bool true) ∧ Below W.heap.size W w') :
    Calls Try.prog 38 #[.pointer (some ⟨p, 0, none⟩), .pointer (some ⟨q, 0, none⟩), .int .i64 (2 * (φ j : Int)), rv ⟨true, j⟩, .int .i64 deep] w fun e w' => e = .returned (.bool true) ∧ Below w.heap.size w w' := by
  have HI := Lib.hid ih
  have hw : word φ ⟨true, j⟩ = 2 * (φ j : Int) := rfl
  have hwf := h.wf
  have hj : j < B.objs.length := by rw [hobjs]; exact hwf.ix_lt hr rfl
  have h0 := h
  obtain ⟨F1, F2, L, P, h⟩ := h
  obtain ⟨vl, vs, vp, hrf, hF⟩ := h.r
  obtain ⟨o, ho, hbo⟩ := duo_ob h hj
  rw [hobjs] at hbo
  have bO := h.s.bO o (List.mem_of_getElem? ho)
  have bL := h.s.bL
  have eF : ∀ i : Nat, A.fieldI ⟨true, j⟩ (i : Int) = o.1.fields.getD i (imm 0) := fun i => by
    unfold AH.fieldI AH.field AH.fields
    rw [if_pos (by omega), if_pos rfl]
    show ((A.objs[(j : Int).toNat]?.map Ob.fields).getD []).getD (i : Int).toNat (imm 0) = _
    rw [Int.toNat_natCast, Int.toNat_natCast, hbo]
    rfl
  have eK : A.kindOf ⟨true, j⟩ = (o.1.kind : Int) := by
    unfold AH.kindOf
    rw [if_pos rfl]
    show ((A.objs[(j : Int).toNat]?.map fun o => (o.kind : Int)).getD 0) = _
    rw [Int.toNat_natCast, hbo]
    rfl
  have eS : A.sizeOf ⟨true, j⟩ = o.1.fields.length := by
    unfold AH.sizeOf AH.fields
    rw [if_pos rfl]
    show ((A.objs[(j : Int).toNat]?.map Ob.fields).getD []).length = _
    rw [Int.toNat_natCast, hbo]
    rfl
  have eB : A.bytesOf ⟨true, j⟩ = o.1.bytes := by
    unfold AH.bytesOf
    rw [if_pos rfl]
    show ((A.objs[(j : Int).toNat]?.map Ob.bytes).getD []) = _
    rw [Int.toNat_natCast, hbo]
    rfl
  have IM : Hid (∀ W, Calls Try.prog 11 #[.int .i64 (2 * (φ j : Int))] W fun e w' => e = .returned (.bool false) ∧ W = w') := fun W => by
    have := isImm_any (2 * (φ j : Int)) W
    rwa [show ((2 * (φ j : Int)) % 2 == 1) = false from by simp] at this
  have KN : Hid (∀ W, Below w.heap.size w W → Calls Try.prog 28 #[.pointer (some ⟨p, 0, none⟩), .int .i64 (2 * (φ j : Int))] W fun e w' => e = .returned (.int .i64 (o.1.kind : Int)) ∧ Below W.heap.size W w') := fun W hW => by
    have := calls_below (duo_kind (h0.later hW) hr)
    rwa [eK, hw] at this
  have SZ : Hid (∀ W, Below w.heap.size w W → Calls Try.prog 29 #[.pointer (some ⟨p, 0, none⟩), .int .i64 (2 * (φ j : Int))] W fun e w' => e = .returned (.int .i64 (o.1.fields.length : Int)) ∧ Below W.heap.size W w') := fun W hW => by
    have := calls_below (duo_size (h0.later hW) hr)
    rwa [eS, hw] at this
  have BY : Hid (∀ W, Below w.heap.size w W → Calls Try.prog 30 #[.pointer (some ⟨p, 0, none⟩), .int .i64 (2 * (φ j : Int))] W fun e w' => e = .returned (.string ⟨o.1.bytes.toArray⟩) ∧ Below W.heap.size W w') := fun W hW => by
    have := duo_bytes (h0.later hW) hr
    rwa [eB, hw] at this
  have FD : Hid (∀ W i r, o.1.fields[i]? = some r → Below w.heap.size w W → Calls Try.prog 25 #[.pointer (some ⟨p, 0, none⟩), .int .i64 (2 * (φ j : Int)), .int .i64 (i : Nat)] W fun e w' => e = .returned (.int .i64 (word φ r)) ∧ Below W.heap.size W w') := fun W i r hi hW => by
    have := calls_below (duo_field (h0.later hW) hr (i : Int))
    rwa [eF, List.getD_eq_getElem?_getD, hi, hw] at this
  have FO : Hid (∀ (i : Nat) r, o.1.fields[i]? = some r → A.Ok r) := fun i r hi => by
    have := fieldI_ok hwf hr (i : Int)
    rwa [eF, List.getD_eq_getElem?_getD, hi] at this
  have RW : Hid (∀ W, Below w.heap.size w W → RowZ W 27 2 o.2 o.1.fields.length (rcells o.1.fields)) := fun W hW => (hrf.later hW).rf o (List.mem_of_getElem? ho)
  have c1 : ∀ x, (w.alloc x).cell? ⟨q, 1, none⟩ = some vl := fun x => (hrf.alloc x).c1
  have hrl := fun x => (hrf.alloc x).rl
  obtain ⟨al, cl, hvl, l1, l2, l3, l4⟩ := hrf.rl.form
  have jl := (List.getElem?_eq_some_iff.1 ho).1
  obtain ⟨gl, rfl⟩ : ∃ g, al = some ⟨g, 0, none⟩ := by
    cases al with
    | none => have := (l3 rfl).1; omega
    | some a => obtain ⟨g, rfl, _⟩ := l4 a rfl; exact ⟨g, rfl⟩
  obtain ⟨e0, e1, e2, e3⟩ := ocells_get ho
  have hlen := ocells_length L
  rw [hvl] at c1
  have f0 : ∀ x, (w.alloc x).cell? ⟨gl, j * 4, none⟩ = some (.int .i64 o.1.kind) := fun x => by have := hrl x; rw [hvl] at this; rw [this.cellAt _ (by omega)]; exact e0
  have f1 : ∀ x, (w.alloc x).cell? ⟨gl, j * 4 + 1, none⟩ = some o.2 := fun x => by have := hrl x; rw [hvl] at this; rw [this.cellAt _ (by omega)]; exact e1
  have f2 : ∀ x, (w.alloc x).cell? ⟨gl, j * 4 + 2, none⟩ = some (.bool o.1.raw) := fun x => by have := hrl x; rw [hvl] at this; rw [this.cellAt _ (by omega)]; exact e2
  have f3 : ∀ x, (w.alloc x).cell? ⟨gl, j * 4 + 3, none⟩ = some (.string ⟨o.1.bytes.toArray⟩) := fun x => by have := hrl x; rw [hvl] at this; rw [this.cellAt _ (by omega)]; exact e3
  obtain ⟨af, cf, hv, p1, p2, p3, p4⟩ := (hrf.rf o (List.mem_of_getElem? ho)).form
  rw [hv] at f1
  have hgl : gl < w.heap.size := hrf.rl.lt (by rw [hvl]; rfl)
  have hql : q < w.heap.size := lt_of_block hrf.hdr
  have q1 : q < w.heap.size + 1 := by omega
  have g1 : gl < w.heap.size + 1 := by omega
  have j0 : (0 : Int) ≤ (j : Int) := by omega
  have j1 : (j : Int) < (L.length : Int) := by omega
  have hfl : (o.1.fields.length : Int) ≤ 1000000 := by omega
  have m1 : w.heap.size + 1 ≠ q := by omega
  have m2 : w.heap.size + 1 ≠ gl := by omega
  have m3 : w.heap.size + 1 ≠ w.heap.size := by omega
  have HV := Lib.hid hv
  have HOB := Lib.hid hbo
  have HDD := Lib.hid hd
  clear h h0 hrf hF ho hbo bO bL eF eK eS eB hw hwf hj hobjs hc hrl hvl l1 l2 l3 l4 e0 e1 e2 e3 hlen jl hv p1 p2 p3 p4 hr ih hd
  unfold rv
  go_enter Try.func38, Try.ntmps38
  go_wp2
  go_region_held3 (fun w' => w'.cell? ⟨w.heap.size, 0, none⟩ = some (.bool true) ∧ w'.cell? ⟨w.heap.size, 1, none⟩ = some (.int .i64 (j : Int))) (go_keep)
    (first | (go_at_call 11; refine (IM.out _).mono ?_; rintro e w5 ⟨rfl, rfl⟩))
  go_wp2
  go_region_held3 (fun w' => w'.cell? ⟨q, 1, none⟩ = some (.slice (some ⟨gl, 0, none⟩) L.length cl) ∧ w'.cell? ⟨w.heap.size, 1, none⟩ = some (.int .i64 (j : Int)) ∧ w'.cell? ⟨gl, j * 4, none⟩ = some (.int .i64 o.1.kind) ∧ w'.cell? ⟨gl, j * 4 + 1, none⟩ = some (.slice af o.1.fields.length cf) ∧ w'.cell? ⟨gl, j * 4 + 2, none⟩ = some (.bool o.1.raw) ∧ w'.cell? ⟨gl, j * 4 + 3, none⟩ = some (.string ⟨o.1.bytes.toArray⟩)) (go_keep) (fail)
  generalize hW5 : (((w.alloc (.cells #[.bool true, .int .i64 (j : Int)] 27)).alloc (.cells #[.int .i64 o.1.kind, .slice af o.1.fields.length cf, .bool o.1.raw, .string ⟨o.1.bytes.toArray⟩] 82)).drew).drew = W5
  have hz5 : w.heap.size + 1 < W5.heap.size := by rw [← hW5]; simp
  have b0 : W5.cell? ⟨w.heap.size + 1, 0, none⟩ = some (.int .i64 o.1.kind) := by rw [← hW5]; simp
  have b1 : W5.cell? ⟨w.heap.size + 1, 1, none⟩ = some (.slice af o.1.fields.length cf) := by rw [← hW5]; simp
  have b3 : W5.cell? ⟨w.heap.size + 1, 3, none⟩ = some (.string ⟨o.1.bytes.toArray⟩) := by rw [← hW5]; simp
  have HB5 : Hid (Below w.heap.size w W5) := by rw [← hW5]; exact below_drew (below_drew (((Below.refl _ _).alloc (Nat.le_refl _) _).alloc (by simp) _))
  clear hW5 c1 f0 f1 f2 f3 m1 m2 m3 q1 g1
  go_wp2
  go_region_held3 (fun w' => w'.cell? ⟨w.heap.size + 1, 0, none⟩ = some (.int .i64 o.1.kind) ∧ w'.cell? ⟨w.heap.size + 1, 1, none⟩ = some (.slice af o.1.fields.length cf) ∧ w'.cell? ⟨w.heap.size + 1, 3, none⟩ = some (.string ⟨o.1.bytes.toArray⟩)) (go_keep)
    (first
    | (go_at_call 28; refine (KN.out _ (by repeat' first | exact HB5.out | refine below_drew ?_)).mono ?_; rintro e w6 ⟨rfl, hb6⟩; replace hb6 : Below W5.heap.size W5 w6 := ((below_drew (Below.refl _ _)).trans hb6); have HB6 := Lib.hid (HB5.out.trans (hb6.mono HB5.out.size)); obtain ⟨k0, k1, k3, kz⟩ := keep3 hb6 hz5 b0 b1 b3; clear hb6)
    | (go_at_call 29; refine (SZ.out _ HB6.out).mono ?_; rintro e w7 ⟨rfl, hb7⟩; have HB7 := Lib.hid (HB6.out.trans (hb7.mono HB6.out.size)); obtain ⟨i0, i1, i3, iz⟩ := keep3 hb7 kz k0 k1 k3; clear hb7)
    | (go_at_call 30; refine (BY.out _ HB7.out).mono ?_; rintro e w8 ⟨rfl, hb8⟩; have HB8 := Lib.hid (HB7.out.trans (hb8.mono HB7.out.size)); obtain ⟨n0, n1, n3, nz⟩ := keep3 hb8 iz i0 i1 i3; clear hb8))
  have HL : Hid (AlLoop w (w.heap.size + 1) (.slice af o.1.fields.length cf) o.1.fields.length o.1.fields.length (.int .i64 0) w8) := ⟨0, rfl, Nat.zero_add _, HB8.out, n1, nz⟩
  clear b0 b1 b3 k0 k1 k3 i0 i1 i3 n0 n3 kz iz hz5
  go_wp2
  go_loopg [12] o.1.fields.length (fun gk s12 wr => AlLoop w (w.heap.size + 1) (.slice af o.1.fields.length cf) o.1.fields.length gk s12 wr)
  case atStart => exact HL.out
  case round =>
    clear HL n1 nz HB5 HB6 HB7 HB8
    obtain ⟨i, rfl, hig, hb, hcell, hz⟩ := hrel
    have i0 : (0 : Int) ≤ (i : Int) := by omega
    have HIG := Lib.hid hig
    have HB := Lib.hid hb
    by_cases hlt : i < o.1.fields.length
    · have i1 : (i : Int) < (o.1.fields.length : Int) := by omega
      by_cases hd0 : deep = 0
      · have d0 : ¬ (0 : Int) < (deep : Int) := by omega
        have d1 : decide ((0 : Int) < (deep : Int)) = false := decide_eq_false d0
        clear hig hb
        go_wp2
        go_ret
        exact ⟨rfl, HB.out⟩
      · have d0 : (0 : Int) < (deep : Int) := by omega
        have d1 : decide ((0 : Int) < (deep : Int)) = true := decide_eq_true d0
        have d2 : (deep : Int) ≤ 1000 := by have := HDD.out; omega
        obtain ⟨r, hx⟩ : ∃ r, o.1.fields[i]? = some r := ⟨_, List.getElem?_eq_getElem hlt⟩
        have hrf := RW.out _ hb
        rw [HV.out] at hrf
        obtain ⟨gf, rfl⟩ : ∃ g, af = some ⟨g, 0, none⟩ := by
          obtain ⟨a, c, e, _, _, f3, f4⟩ := hrf.form
          cases e
          cases af with
          | none => have := (f3 rfl).1; omega
          | some a => obtain ⟨g, rfl, _⟩ := f4 a rfl; exact ⟨g, rfl⟩
        obtain ⟨e0, e1⟩ := rcells_get hx
        have hlen := rcells_length o.1.fields
        have g0 : wr.cell? ⟨gf, i * 2, none⟩ = some (.bool r.obj) := by rw [hrf.cellAt _ (by omega)]; exact e0
        have g1 : wr.cell? ⟨gf, i * 2 + 1, none⟩ = some (.int .i64 r.n) := by rw [hrf.cellAt _ (by omega)]; exact e1
        have hgf : gf < wr.heap.size := hrf.lt rfl
        have HFD := Lib.hid (fun W hW => FD.out W i r hx hW)
        have HIH : Hid (∀ W, Below w.heap.size w W → Calls Try.prog 38 #[.pointer (some ⟨p, 0, none⟩), .pointer (some ⟨q, 0, none⟩), .int .i64 (word φ r), .agg #[.bool r.obj, .int .i64 r.n], .int .i64 ((deep : Int) - 1)] W fun e w' => e = .returned (.bool true) ∧ Below W.heap.size W w') := fun W hW => by
          have := HI.out (by omega) r (FO.out i r hx) W hW
          rw [show ((deep - 1 : Nat) : Int) = (deep : Int) - 1 by omega] at this
          exact this
        have d3 : IntKind.i64.wrap ((deep : Int) - 1) = (deep : Int) - 1 := IntWalk.i64_in _ (by omega)
        clear hig hb hx hrf e0 e1 hlen
        go_wp2
        go_region_held3 (fun w' => w'.cell? ⟨w.heap.size + 1, 1, none⟩ = some (.slice (some ⟨gf, 0, none⟩) o.1.fields.length cf) ∧ w'.cell? ⟨gf, i * 2, none⟩ = some (.bool r.obj) ∧ w'.cell? ⟨gf, i * 2 + 1, none⟩ = some (.int .i64 r.n)) (go_keep)
          (first
          | (go_at_call 25; refine (HFD.out _ (below_drew HB.out)).mono ?_; rintro e w6 ⟨rfl, hb6⟩; replace hb6 : Below wr.heap.size wr w6 := ((below_drew (Below.refl _ _)).trans hb6); have HB6 := Lib.hid (HB.out.trans (hb6.mono HB.out.size)); have k1 := (hb6.cell (p := ⟨w.heap.size + 1, 1, none⟩) hz).trans hcell; have k2 := (hb6.cell (p := ⟨gf, i * 2, none⟩) hgf).trans g0; have k3 := (hb6.cell (p := ⟨gf, i * 2 + 1, none⟩) hgf).trans g1; have kz := Nat.lt_of_lt_of_le hz hb6.size; have kg := Nat.lt_of_lt_of_le hgf hb6.size; clear hb6)
          | (go_at_call 38; refine (HIH.out _ HB6.out).mono ?_; rintro e w7 ⟨rfl, hb7⟩; have HB7 := Lib.hid (HB6.out.trans (hb7.mono HB6.out.size)); have i1 := (hb7.cell (p := ⟨w.heap.size + 1, 1, none⟩) kz).trans k1; have i2 := (hb7.cell (p := ⟨gf, i * 2, none⟩) kg).trans k2; have i3 := (hb7.cell (p := ⟨gf, i * 2 + 1, none⟩) kg).trans k3; have iz := Nat.lt_of_lt_of_le kz hb7.size; clear hb7))
        clear d3
        go_wp2
        go_roundg (gk - 1)
        case measure => have := HIG.out; omega
        case rel => exact ⟨i + 1, by go_num, by have := HIG.out; omega, HB7.out, i1, iz⟩
    · have i1 : ¬ (i : Int) < (o.1.fields.length : Int) := by omega
      have d1 : decide ((i : Int) < (o.1.fields.length : Int)) = false := decide_eq_false i1
      clear hig hb
      go_wp2
      go_ret
      exact ⟨rfl, HB.out⟩
theorem alike_any (hc : c ≤ 1000000) (hobjs : B.objs = A.objs) (hph : ∀ j, A.Reach j → φ j ≤ 4194304) : ∀ (deep : Nat) (w : World), deep ≤ 1000 → Duo N w0 p q A st φ m c B w → ∀ r, A.Ok r →
    Calls Try.prog 38 #[.pointer (some ⟨p, 0, none⟩), .pointer (some ⟨q, 0, none⟩), .int .i64 (word φ r), rv r, .int .i64 deep] w fun e w' => e = .returned (.bool true) ∧ Below w.heap.size w w' := by
  intro deep
  induction deep with
  | zero =>
    intro w hd h r hr
    obtain ⟨b, n⟩ := r
    cases b
    · exact alike_imm h hc hr 0 hd
    · have h0 := ok_ix hr rfl
      obtain ⟨j, rfl⟩ : ∃ j : Nat, n = j := ⟨n.toNat, by have : 0 ≤ n := h0; omega⟩
      exact alike_obj h hobjs hc hr 0 hd (hph j (ok_names hr ⟨rfl, rfl⟩)) (fun h => absurd h (Nat.lt_irrefl _))
  | succ d ih =>
    intro w hd h r hr
    obtain ⟨b, n⟩ := r
    cases b
    · exact alike_imm h hc hr (d + 1) hd
    · have h0 := ok_ix hr rfl
      obtain ⟨j, rfl⟩ : ∃ j : Nat, n = j := ⟨n.toNat, by have : 0 ≤ n := h0; omega⟩
      exact alike_obj h hobjs hc hr (d + 1) hd (hph j (ok_names hr ⟨rfl, rfl⟩)) (fun _ r' hr' W hW => ih W (by omega) (h.later hW) r' hr')
end
end Go.Proofs.Ytlbiapgikkjooaa
