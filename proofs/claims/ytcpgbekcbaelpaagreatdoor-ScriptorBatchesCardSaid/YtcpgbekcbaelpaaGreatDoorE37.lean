/- Texts of the proof, in build order: StBt. -/
import Derived.Test.YtcpgbekcbaelpaaGreatDoorE36
import Derived.Test.YtcpgbekcbaelpaaGreatDoorE09
import Derived.Test.YtcpgbekcbaelpaaGreatDoorE26
set_option linter.unusedVariables false
set_option linter.unusedSimpArgs false
set_option linter.unusedSectionVars false
/- The law of batches: the walk. -/
namespace Go.Proofs.YtcpgbekcbaelpaaGreatDoor
open Go.RowKit Go.Shelf Go.Maps Wr
set_option linter.unusedVariables false
set_option linter.unusedSimpArgs false
theorem wrap_cS (n m : Int) (h : wr n = m) (w : World) : Calls Tryz.prog 137 #[.int .i64 n] w fun e w' => e = .returned (.int .i64 m) ∧ w = w' := by
  subst h
  exact wrap_any n w
set_option maxRecDepth 100000 in
theorem add_cS (w : World) : Calls Tryz.prog 86 #[.int .i64 4611686018427387903, .int .i64 1] w fun e w' => e = .returned (.int .i64 (-4611686018427387904)) ∧ w = w' := by
  have h3 := fun w => Lib.hid (wrap_cS 4611686018427387904 (-4611686018427387904) (by decide) w)
  go_enter Tryz.func86, Tryz.ntmps86
  go_wp2_with (go_at_call 137; refine (h3 _).out.mono ?_; rintro e w' ⟨rfl, rfl⟩)
  go_ret
  exact ⟨rfl, rfl⟩
set_option maxRecDepth 100000 in
theorem stands_any (w : World) : Calls Tryz.prog 39 #[] w fun e w' => e = .returned (.bool true) ∧ w = w' := by
  have h3 := fun w => Lib.hid (add_cS w)
  go_enter Tryz.func39, Tryz.ntmps39
  go_wp2_with (go_at_call 86; refine (h3 _).out.mono ?_; rintro e w' ⟨rfl, rfl⟩)
  go_ret
  exact ⟨rfl, rfl⟩
theorem mod5 (a : Int) : ∃ m : Nat, wrap64 ((IntKind.u64.wrap a).tmod 5) = (m : Int) ∧ m < 5 := by
  have e1 : IntKind.u64.wrap a = a % 18446744073709551616 := rfl
  have h0 : 0 ≤ IntKind.u64.wrap a := by omega
  rw [Int.tmod_eq_emod_of_nonneg h0]
  refine ⟨(IntKind.u64.wrap a % 5).toNat, ?_, by omega⟩
  unfold wrap64
  omega
structure Fp (N : Nat) (X : World) (A B : Nat → Prop) : Prop where
  a : ∀ k, A k → N ≤ k ∧ k < X.heap.size
  b : ∀ k, B k → N ≤ k ∧ k < X.heap.size
  d : ∀ k, A k → ¬ B k
abbrev Nx (A : Nat → Prop) (X X' : World) : Nat → Prop := fun k => Gro A X.heap.size k ∧ k < X'.heap.size
theorem Fp.left {N : Nat} {X X' : World} {A B : Nat → Prop} (h : Fp N X A B) (hn : N ≤ X.heap.size) (hz : X.heap.size ≤ X'.heap.size) : Fp N X' (Nx A X X') B :=
  ⟨fun k hk => ⟨by rcases hk.1 with e | e; exact (h.a k e).1; omega, hk.2⟩, fun k hk => ⟨(h.b k hk).1, Nat.lt_of_lt_of_le (h.b k hk).2 hz⟩, fun k hk e => by
    rcases hk.1 with e' | e'
    · exact h.d k e' e
    · have := (h.b k e).2; omega⟩
theorem Fp.right {N : Nat} {X X' : World} {A B : Nat → Prop} (h : Fp N X A B) (hn : N ≤ X.heap.size) (hz : X.heap.size ≤ X'.heap.size) : Fp N X' A (Nx B X X') :=
  ⟨fun k hk => ⟨(h.a k hk).1, Nat.lt_of_lt_of_le (h.a k hk).2 hz⟩, fun k hk => ⟨by rcases hk.1 with e | e; exact (h.b k e).1; omega, hk.2⟩, fun k hk e => by
    rcases e.1 with e' | e'
    · exact h.d k hk e'
    · have := (h.a k hk).2; omega⟩
theorem DkAt.nx {w w' : World} {g : Nat} {D : St.Dk} {A : Nat → Prop} (h : DkAt w' g D (Gro A w.heap.size) (Gro A w.heap.size)) : DkAt w' g D (Nx A w w') (Nx A w w') := h.mono (fun k hk h => ⟨h, hk⟩) (fun k hk h => ⟨h, hk⟩)
def BtI (W1 : World) (N g1 g2 bb sz K : Nat) (gk : Nat) (s7 s9 s11 : Value) (X : World) : Prop :=
  ∃ (i ba : Nat) (sa sb : St.Sto) (Da Db : St.Dk) (A B Pv : Nat → Prop) (pend : List CG), s11 = .int .i64 (i : Int) ∧ i + gk = K ∧ s7 = .pointer (some ⟨ba, 0, none⟩) ∧ BtS W1 N g1 g2 ba bb X sa sb Da Db A B Pv s9 pend pend (1 + 2 * (i : Int)) (1 + (i : Int)) ∧ pend.length < sz
def EnI (W : World) (M : Nat) (gk : Nat) (s : Value) (X : World) : Prop := ∃ j : Nat, s = .int .i64 (j : Int) ∧ j + gk = M ∧ Below W.heap.size W X
theorem Row.get {w : World} {e : TypeId} {ao : Option Addr} {n cap : Nat} {xs : List Value} (h : Row w e (.slice ao n cap) xs) {j : Nat} {u : Value} (hj : xs[j]? = some u) : ∃ g, ao = some ⟨g, 0, none⟩ ∧ g < w.heap.size ∧ w.cell? ⟨g, j, none⟩ = some u := by
  have hjl := (List.getElem?_eq_some_iff.1 hj).1
  obtain ⟨ao', cap', e1, _, _, hn, hs⟩ := h.form
  cases e1
  cases ao with
  | none => rw [(hn rfl).1] at hj; cases hj
  | some a =>
    obtain ⟨g, rfl, hg⟩ := hs a rfl
    exact ⟨g, rfl, hg, (h.cellAt j hjl).trans hj⟩
set_option maxRecDepth 100000 in
set_option maxHeartbeats 8000000 in
theorem batches_walk (us : List VT) (ao : Option Addr) (cap : Nat) (bt : Int) (ts : List Int) (vt : Value) (w : World) (hT : Half w) (hk : KidsAt w (fun b => b < w.heap.size) us ao 0) (hcap : us.length ≤ cap ∧ cap ≤ maxLen) (ht : IntsAt w vt ts) :
    Calls Tryz.prog 8 #[.agg #[.slice ao us.length cap, .int .i64 bt, vt]] w fun e w' => e = .returned (.bool true) ∧ Below w.heap.size w w' := by
  obtain ⟨at', ct, rfl, _, hct⟩ := ht.form
  obtain ⟨n, hn⟩ : ∃ n, us.length = n := ⟨_, rfl⟩
  obtain ⟨nt, hnt⟩ : ∃ nt, ts.length = nt := ⟨_, rfl⟩
  rw [hnt] at ht
  rw [hn, hnt]
  have HB0 : Hid (Below w.heap.size w (w.alloc (.cells #[.slice ao n cap, .int .i64 bt, .slice at' nt ct] 91))) := (Below.refl _ w).alloc (Nat.le_refl _) _
  have HZ0 : Hid ((w.alloc (.cells #[.slice ao n cap, .int .i64 bt, .slice at' nt ct] 91)).heap.size = w.heap.size + 1) := size_alloc _ _
  have HX0 : Hid ((w.alloc (.cells #[.slice ao n cap, .int .i64 bt, .slice at' nt ct] 91)).heap[w.heap.size]? = some (.cells #[.slice ao n cap, .int .i64 bt, .slice at' nt ct] 91)) := heap_alloc_new w _
  have HT := Lib.hid hT
  have HK := Lib.hid hk
  have HTS := Lib.hid ht
  have HN : Hid (us.length = n ∧ n ≤ maxLen) := ⟨hn, by omega⟩
  have HNT : Hid (ts.length = nt ∧ nt ≤ maxLen) := ⟨hnt, by have := ‹ts.length ≤ ct›; omega⟩
  have hlt := hT.lt
  have HLT : Hid (0 < w.heap.size) := hlt
  clear hT hk ht hn hnt hcap hct hlt
  go_enter Tryz.func8, Tryz.ntmps8
  go_upto_region 1 with fail
  generalize w.alloc (.cells #[.slice ao n cap, .int .i64 bt, .slice at' nt ct] 91) = W1 at *
  have HNEW : Hid (∀ X, Calls Tryz.prog 22 #[.int .i64 300] X fun e w' => ∃ g, e = .returned (.tuple #[.pointer (some ⟨g, 0, none⟩), .int .i64 0]) ∧ X.heap.size ≤ g ∧ DkAt w' g (St.Dk.new 300) (fun k => X.heap.size ≤ k) (fun _ => False) ∧ Below X.heap.size X w') := fun X => dkNew_any 300 (by omega) (by omega) X
  have HHN : Hid (0 < W1.heap.size) := Lib.hid (by have h2 := HLT.out; have h3 := HZ0.out; omega)
  have HT1 : Hid (Half W1) := HT.out.below HB0.out
  go_upto_region 10 with (first
    | (go_at_call 22; (with_reducible refine (HNEW.out W1).mono ?_); rintro e w1 ⟨g1, rfl, hg, hd, hb⟩; have HD1 : Hid (DkAt w1 g1 (St.Dk.new 300) (fun k => W1.heap.size ≤ k ∧ k < w1.heap.size) (fun k => W1.heap.size ≤ k ∧ k < w1.heap.size)) := hd.mono (fun k hk h => ⟨h, hk⟩) (fun _ _ h => h.elim); have HB1 := Lib.hid hb; clear hd hb hg)
    | (go_at_call 22; (with_reducible refine (HNEW.out w1).mono ?_); rintro e w2 ⟨g2, rfl, hg, hd, hb⟩; have HD2 : Hid (DkAt w2 g2 (St.Dk.new 300) (fun k => w1.heap.size ≤ k ∧ k < w2.heap.size) (fun k => w1.heap.size ≤ k ∧ k < w2.heap.size)) := hd.mono (fun k hk h => ⟨h, hk⟩) (fun _ _ h => h.elim); have HD1b := Lib.hid (HD1.out.below hb); have HB2 : Hid (Below W1.heap.size W1 w2 ∧ W1.heap.size ≤ w1.heap.size ∧ w1.heap.size ≤ w2.heap.size) := ⟨HB1.out.trans (hb.mono HB1.out.size), HB1.out.size, hb.size⟩; have HF2 : Hid (Fp W1.heap.size w2 (fun k => W1.heap.size ≤ k ∧ k < w1.heap.size) (fun k => w1.heap.size ≤ k ∧ k < w2.heap.size)) := ⟨fun k hk => ⟨hk.1, by have := hb.size; omega⟩, fun k hk => ⟨by have := HB1.out.size; omega, hk.2⟩, fun k h1 h2 => by omega⟩; clear hd hb hg)
    | (go_at_call 39; (with_reducible refine (stands_any w2).mono ?_); rintro e w' ⟨rfl, rfl⟩)
    | (go_at_call 23; go_loud (have hq := format_sg (n := 300) (log := 100) (count := 100) (each := 99) HD1b.out (fun e => absurd e.1 (by have := HHN.out; omega)) (HT1.out.below HB2.out.1) (new_live 300) rfl (by omega) lay_300; (with_reducible refine hq.mono ?_); clear hq; rintro e w3 ⟨rfl, ht, D1, f1, hd, hL, hq, hg⟩; have HD3 := Lib.hid hd.nx; have HD3b := Lib.hid (HD2.out.turn ht (fun k hk e => HF2.out.d k e hk) (fun k hk e => HF2.out.d k e hk)); have HL3 := Lib.hid hL; have HQ3 := Lib.hid hq; have HG3 := Lib.hid hg; have HF3 := Lib.hid (HF2.out.left HB2.out.1.size ht.size); have HB3 : Hid (Below W1.heap.size W1 w3) := HB2.out.1.trans (ht.below HB2.out.1.size (fun k hk => hk.1)); have HT3 : Hid (Half w3) := (HT1.out.below HB2.out.1).turn ht (fun e => absurd e.1 (by have := HHN.out; omega)); clear ht hd hL hq hg))
    | (go_at_call 23; go_loud (have hq := format_sg (n := 300) (log := 100) (count := 100) (each := 99) HD3b.out (fun e => absurd (HF3.out.b _ e).1 (by have := HHN.out; omega)) HT3.out (new_live 300) rfl (by omega) lay_300; (with_reducible refine hq.mono ?_); clear hq; rintro e w4 ⟨rfl, ht, D2, f2, hd, hL, hq, hg⟩; have HD4 := Lib.hid hd.nx; have HD4b := Lib.hid (HD3.out.turn ht (fun k hk e => HF3.out.d k hk e) (fun k hk e => HF3.out.d k hk e)); have HL4 := Lib.hid hL; have HQ4 := Lib.hid hq; have HG4 := Lib.hid hg; have HF4 := Lib.hid (HF3.out.right HB3.out.size ht.size); have HB4 : Hid (Below W1.heap.size W1 w4) := HB3.out.trans (ht.below HB3.out.size (fun k hk => (HF3.out.b k hk).1)); have HT4 : Hid (Half w4) := HT3.out.turn ht (fun e => absurd (HF3.out.b _ e).1 (by have := HHN.out; omega)); clear ht hd hL hq hg))
    | (go_at_call 13; go_loud (have hq := open_sg (log := 100) HD4b.out (fun e => absurd (HF4.out.a _ e).1 (by have := HHN.out; omega)) HT4.out HL3.out HQ3.out (by omega) HG3.out lay_300; (with_reducible refine hq.mono ?_); clear hq; rintro e w5 ⟨ba, Da, rfl, ht, hs⟩; have HS5 := Lib.hid hs.clip; have HD5 := Lib.hid (HD4.out.turn ht (fun k hk e => HF4.out.d k e hk) (fun k hk e => HF4.out.d k e hk)); have HF5 := Lib.hid (HF4.out.left HB4.out.size ht.size); have HB5 : Hid (Below W1.heap.size W1 w5) := HB4.out.trans (ht.below HB4.out.size (fun k hk => (HF4.out.a k hk).1)); have HT5 : Hid (Half w5) := HT4.out.turn ht (fun e => absurd (HF4.out.a _ e).1 (by have := HHN.out; omega)); clear ht hs))
    | (go_at_call 13; go_loud (have hq := open_sg (log := 100) HD5.out (fun e => absurd (HF5.out.b _ e).1 (by have := HHN.out; omega)) HT5.out HL4.out HQ4.out (by omega) HG4.out lay_300; (with_reducible refine hq.mono ?_); clear hq; rintro e w6 ⟨bb, Db, rfl, ht, hs⟩; have HS6 := Lib.hid hs.clip; have HS6a := Lib.hid (HS5.out.turn ht (fun k hk e => HF5.out.d k hk e) (fun e => absurd (HF5.out.b _ e).1 (by have := HHN.out; omega))); have HF6 := Lib.hid (HF5.out.right HB5.out.size ht.size); have HB6 : Hid (Below W1.heap.size W1 w6) := HB5.out.trans (ht.below HB5.out.size (fun k hk => (HF5.out.b k hk).1)); clear ht hs)))
  have HBX : Hid (∀ X, Below W1.heap.size W1 X → X.cell? ⟨w.heap.size, 0, none⟩ = some (.slice ao n cap) ∧ X.cell? ⟨w.heap.size, 1, none⟩ = some (.int .i64 bt) ∧ X.cell? ⟨w.heap.size, 2, none⟩ = some (.slice at' nt ct)) := fun X hX => by
    have h1 := (hX.block _ (lt_of_block HX0.out)).trans HX0.out
    exact ⟨by simp [World.cell?, h1], by simp [World.cell?, h1], by simp [World.cell?, h1]⟩
  have HWW : Hid (∀ X, Below W1.heap.size W1 X → Below w.heap.size w X) := fun X hX => HB0.out.trans (hX.mono (by have := HZ0.out; omega))
  have HBS : Hid (BtS W1 W1.heap.size g1 g2 ba bb w6 (St.sto0 100 99) (St.sto0 100 99) Da Db _ _ (fun _ => False) (.slice none 0 0) [] [] 1 1) := { ga := HS6a.out, gb := HS6.out, ca := ⟨rfl, rfl⟩, cb := ⟨rfl, rfl⟩, a := HF6.out.a, b := HF6.out.b, ab := HF6.out.d, row := CRow.nil _ _ _, p := fun _ h => h.elim, own := fun k hk => (by simp [Value.ownBlock] at hk), adv := rfl, w := HB6.out, n := HB6.out.size, hh := HHN.out }
  obtain ⟨m5, hm5, hm5l⟩ := mod5 bt
  obtain ⟨sz, hsz⟩ : ∃ sz : Nat, 1 + m5 = sz := ⟨_, rfl⟩
  have HSZ : Hid (1 ≤ sz ∧ sz ≤ 5) := Lib.hid (by omega)
  have hw5 : IntKind.i64.wrap (1 + (m5 : Int)) = (sz : Int) := by rw [IntWalk.i64_left, IntWalk.wrap64_in _ ⟨by omega, by omega⟩]; omega
  obtain ⟨x0, x1, x2⟩ := HBX.out w6 HB6.out
  clear hm5l hsz
  go_upto_region 11 with fail
  clear hm5 hw5 x0 x1 x2
  go_wp2
  obtain ⟨K, hK⟩ : ∃ K, min n 20 = K := ⟨_, rfl⟩
  have HKK : Hid (K ≤ n ∧ K ≤ 20 ∧ (K = n ∨ K = 20)) := Lib.hid (by omega)
  clear hK
  go_loopg [7, 9, 11, 12, 13, 14, 15, 16, 17, 18] K (fun gk s7 s9 s11 s12 s13 s14 s15 s16 s17 s18 wr => BtI W1 W1.heap.size g1 g2 bb sz K gk s7 s9 s11 wr)
  case atStart => exact ⟨0, ba, _, _, _, _, _, _, _, [], rfl, by omega, rfl, HBS.out, by have := HSZ.out; simp; omega⟩
  case round =>
    clear HBS
    obtain ⟨i, ba, sa, sb, Da, Db, A, B, Pv, pend, rfl, hik, rfl, hs, hpl⟩ := hrel
    have HS := Lib.hid hs
    have HPL := Lib.hid hpl
    have HIK := Lib.hid hik
    obtain ⟨x0, x1, x2⟩ := HBX.out wr hs.w
    obtain ⟨a9, c9, rfl⟩ := hs.row.form
    have i0 : (0 : Int) ≤ (i : Int) := by omega
    clear hs hpl
    by_cases hlt : i < K
    · have hkk := HKK.out
      have i1 : (i : Int) < (n : Int) := by omega
      have i2 : (i : Int) < 20 := by omega
      have HLT2 : Hid (i < K ∧ i < 20) := Lib.hid (by omega)
      obtain ⟨u, hu⟩ : ∃ u, us[i]? = some u := ⟨_, List.getElem?_eq_getElem (by have := HN.out.1; omega)⟩
      obtain ⟨gi, oi, _, _, _, _, rfl, _⟩ := HK.out.get hu
      obtain ⟨hgl, aou, capu, y0, y1, y2, y3, hvu⟩ := HK.out.cells hu
      rw [Nat.zero_add] at y0 y1 y2 y3
      have hww : Below w.heap.size w wr := HB0.out.trans (HS.out.w.mono (by have := HZ0.out; omega))
      replace y0 := (hww.cell (p := ⟨gi, oi + i * 4, none⟩) hgl).trans y0
      replace y1 := (hww.cell (p := ⟨gi, oi + i * 4 + 1, none⟩) hgl).trans y1
      replace y2 := (hww.cell (p := ⟨gi, oi + i * 4 + 2, none⟩) hgl).trans y2
      replace y3 := (hww.cell (p := ⟨gi, oi + i * 4 + 3, none⟩) hgl).trans y3
      have HTA : Hid (Calls Tryz.prog 40 #[.agg #[.int .i64 u.kind, .int .i64 u.num, .string u.text, .slice aou u.kids.length capu], .int .i64 50, .int .i64 50] wr (TameEnd wr (u.tame 50 50))) := Lib.hid (tame_walk u.sz u (vval u aou capu) wr (fun b => b < w.heap.size) 50 50 (Nat.le_refl _) (hvu.below hww (fun b h => h)) (fun b hb => Nat.lt_of_lt_of_le hb hww.size) (by decide) (by decide) (by decide) (by decide))
      obtain ⟨t, htt⟩ : ∃ t, (u.tame 50 50).1 = t := ⟨_, rfl⟩
      have HTT := Lib.hid htt
      clear hik hlt hkk hu hgl hvu hww htt
      go_upto_region 15 with (go_at_call 40; go_loud ((with_reducible refine HTA.out.mono ?_); rintro e w3r ⟨v3, rfl, hv3, hb3⟩; rw [HTT.out] at hv3; obtain ⟨ao3, cap3, hve⟩ := hv3.form; replace hve : v3 = .agg #[.int .i64 t.kind, .int .i64 t.num, .string t.text, .slice ao3 t.kids.length cap3] := hve; subst hve; have HV3r := Lib.hid hv3; have HB3r := Lib.hid hb3; clear hv3 hb3))
      have HS3r := Lib.hid (HS.out.val HB3r.out)
      have hb4 := (Below.refl w3r.heap.size w3r).alloc (Nat.le_refl _) (.cells #[.int .i64 t.kind, .int .i64 t.num, .string t.text, .slice ao3 t.kids.length cap3] 33)
      have hx4 := heap_alloc_new w3r (.cells #[.int .i64 t.kind, .int .i64 t.num, .string t.text, .slice ao3 t.kids.length cap3] 33)
      have HS4r := Lib.hid (HS3r.out.below hb4)
      have HV4r := Lib.hid (HV3r.out.below hb4 (fun b hb => hb.2))
      have hz4 : w3r.heap.size < (w3r.alloc (.cells #[.int .i64 t.kind, .int .i64 t.num, .string t.text, .slice ao3 t.kids.length cap3] 33)).heap.size := by rw [size_alloc]; omega
      generalize w3r.alloc (.cells #[.int .i64 t.kind, .int .i64 t.num, .string t.text, .slice ao3 t.kids.length cap3] 33) = w4r at hb4 hx4 HS4r HV4r hz4 ⊢
      obtain ⟨b0, b1, b2, b3, _⟩ := hdr4_cells hx4
      have HX4r := Lib.hid hx4
      have HZ4r : Hid (wr.heap.size ≤ w3r.heap.size ∧ w3r.heap.size < w4r.heap.size) := ⟨HB3r.out.size, hz4⟩
      have HEN : Hid (Calls Tryz.prog 34 #[.agg #[.int .i64 t.kind, .int .i64 t.num, .string t.text, .slice ao3 t.kids.length cap3]] w4r (RefEncEnd w4r t)) := Lib.hid (refEncode_any t (vval t ao3 cap3) w4r _ HV4r.out (fun b hb => by have := HZ4r.out; omega))
      obtain ⟨er, her⟩ : ∃ er, encErr t = er := ⟨_, rfl⟩
      have HER := Lib.hid her
      clear hb4 hx4 hz4 her x0 x1 x2 y0 y1 y2 y3 HTA
      by_cases h0 : er = 0
      · subst h0
        obtain ⟨m7, hm7⟩ : ∃ m7, i % 7 = m7 := ⟨_, rfl⟩
        obtain ⟨id, hid⟩ : ∃ id : Int, 1 + (m7 : Int) = id := ⟨_, rfl⟩
        have hr7 : (i : Int).tmod 7 = (m7 : Int) := by rw [Int.tmod_eq_emod_of_nonneg i0]; omega
        have HIDB : Hid (1 ≤ id ∧ id ≤ 7) := Lib.hid (by omega)
        have HIDW : Hid ((Lit.int .i64 id).wf = true) := WalkArith.wf_i64 (by omega)
        have hw7 : IntKind.i64.wrap (m7 : Int) = (m7 : Int) := by rw [IntWalk.i64_left, IntWalk.wrap64_in _ ⟨by omega, by omega⟩]
        have hw8 : IntKind.i64.wrap (1 + (m7 : Int)) = id := by rw [IntWalk.i64_left, IntWalk.wrap64_in _ ⟨by omega, by omega⟩]; exact hid
        clear hm7 hid
        go_upto_region 18 with (go_at_call 34; go_loud ((with_reducible refine HEN.out.mono ?_); rintro e w5r ⟨he, hb⟩; rw [HER.out] at he; subst he; have HB5r := Lib.hid hb; have hx5 := (hb.block _ (lt_of_block HX4r.out)).trans HX4r.out; obtain ⟨b0, b1, b2, b3, _⟩ := hdr4_cells hx5; clear hb))
        have HS5r := Lib.hid (HS4r.out.below HB5r.out)
        have HV5r := Lib.hid (HV4r.out.below HB5r.out (fun b hb => by have := HZ4r.out; omega))
        have hb6 := (Below.refl w5r.heap.size w5r).alloc (Nat.le_refl _) (.cells #[.int .i64 id, .int .i64 t.kind, .int .i64 t.num, .string t.text, .slice ao3 t.kids.length cap3, .bool false] 35)
        have hx6 := heap_alloc_new w5r (.cells #[.int .i64 id, .int .i64 t.kind, .int .i64 t.num, .string t.text, .slice ao3 t.kids.length cap3, .bool false] 35)
        have HS6' := Lib.hid (HS5r.out.below hb6)
        have HV6r := Lib.hid (HV5r.out.below hb6 (fun b hb => by have := HZ4r.out; have := HB5r.out.size; omega))
        have hz6 : w5r.heap.size < (w5r.alloc (.cells #[.int .i64 id, .int .i64 t.kind, .int .i64 t.num, .string t.text, .slice ao3 t.kids.length cap3, .bool false] 35)).heap.size := by rw [size_alloc]; omega
        have hz5 := HB5r.out.size
        generalize w5r.heap.size = q6 at hx6 hz6 hz5 ⊢
        generalize w5r.alloc (.cells #[.int .i64 id, .int .i64 t.kind, .int .i64 t.num, .string t.text, .slice ao3 t.kids.length cap3, .bool false] 35) = w6' at hb6 hx6 HS6' HV6r hz6 ⊢
        have HX6r := Lib.hid hx6
        have HZ6r : Hid (wr.heap.size ≤ w3r.heap.size ∧ w3r.heap.size < q6 ∧ q6 < w6'.heap.size) := by have := HZ4r.out; exact ⟨this.1, by omega, hz6⟩
        obtain ⟨e0, e1, e2, e3, e4, e5⟩ : w6'.cell? ⟨q6, 0, none⟩ = some (.int .i64 id) ∧ w6'.cell? ⟨q6, 1, none⟩ = some (.int .i64 t.kind) ∧ w6'.cell? ⟨q6, 2, none⟩ = some (.int .i64 t.num) ∧ w6'.cell? ⟨q6, 3, none⟩ = some (.string t.text) ∧ w6'.cell? ⟨q6, 4, none⟩ = some (.slice ao3 t.kids.length cap3) ∧ w6'.cell? ⟨q6, 5, none⟩ = some (.bool false) := ⟨by simp [World.cell?, hx6], by simp [World.cell?, hx6], by simp [World.cell?, hx6], by simp [World.cell?, hx6], by simp [World.cell?, hx6], by simp [World.cell?, hx6]⟩
        clear hb6 hx6 hz6 hz5 hr7 hw7 hw8 b0 b1 b2 b3 hx5
        cases hap : sa.apT [chOf (id, t, false)] with
        | error x =>
          have HAP := Lib.hid hap
          have hxz := apT_ne (cs := [(id, t, false)]) hap
          have z1 : (x != 0) = true := by simpa using hxz
          clear hap hxz
          go_wp2_with (go_at_call 11; go_loud (have hq := (HS6'.out.below ((Below.refl _ w6').alloc (Nat.le_refl _) (.cells #[.int .i64 id, .int .i64 t.kind, .int .i64 t.num, .string t.text, .slice ao3 t.kids.length cap3, .bool false] 35))).putNo (c := (id, t, false)) (by have := HLT2.out; omega) (chs_val HV6r.out (fun b hb => by have := HZ6r.out; omega) HIDW.out) (fun k hk => by simpa using hk) HAP.out; (with_reducible refine hq.mono ?_); clear hq; rintro e w7r ⟨rfl, _, hb⟩; have HB7r := Lib.hid hb; clear hb))
          go_ret
          have hz := HB7r.out.size
          exact ⟨rfl, HWW.out _ ((HS6'.out.below ((Below.refl _ w6').alloc (Nat.le_refl _) (.cells #[.int .i64 id, .int .i64 t.kind, .int .i64 t.num, .string t.text, .slice ao3 t.kids.length cap3, .bool false] 35))).below HB7r.out).w⟩
        | ok p =>
          have HAP := Lib.hid hap
          clear hap
          obtain ⟨L, hL⟩ : ∃ L, pend.length + 1 = L := ⟨_, rfl⟩
          have HL := Lib.hid hL
          clear hL
          go_upto_region 21 with (first
            | (go_at_call 11; go_loud (have hs7 := HS6'.out.below ((Below.refl _ w6').alloc (Nat.le_refl _) (.cells #[.int .i64 id, .int .i64 t.kind, .int .i64 t.num, .string t.text, .slice ao3 t.kids.length cap3, .bool false] 35)); have hq := hs7.put (c := (id, t, false)) (by have := HLT2.out; omega) (chs_val HV6r.out (fun b hb => by have := HZ6r.out; omega) HIDW.out) (fun k hk => by simpa using hk) HAP.out; (with_reducible refine hq.mono ?_); clear hq; rintro e w8r ⟨rfl, t8, s8, D8, A8, hs8⟩; have HS8r := Lib.hid hs8; have hx7 := (((Below.refl w6'.heap.size w6').alloc (Nat.le_refl _) (.cells #[.int .i64 id, .int .i64 t.kind, .int .i64 t.num, .string t.text, .slice ao3 t.kids.length cap3, .bool false] 35)).block q6 (by have := HZ6r.out; omega)).trans HX6r.out; have hnA : ∀ k, wr.heap.size ≤ k → ¬ A k := (fun k hk e => by have := (HS.out.a k e).2; omega); have hx8 := (t8.block q6 (lt_of_block hx7) (hnA q6 (by have := HZ6r.out; omega))).trans hx7; obtain ⟨e0, e1, e2, e3, e4, e5⟩ : w8r.cell? ⟨q6, 0, none⟩ = some (.int .i64 id) ∧ w8r.cell? ⟨q6, 1, none⟩ = some (.int .i64 t.kind) ∧ w8r.cell? ⟨q6, 2, none⟩ = some (.int .i64 t.num) ∧ w8r.cell? ⟨q6, 3, none⟩ = some (.string t.text) ∧ w8r.cell? ⟨q6, 4, none⟩ = some (.slice ao3 t.kids.length cap3) ∧ w8r.cell? ⟨q6, 5, none⟩ = some (.bool false) := ⟨(by simp [World.cell?, hx8]), (by simp [World.cell?, hx8]), (by simp [World.cell?, hx8]), (by simp [World.cell?, hx8]), (by simp [World.cell?, hx8]), (by simp [World.cell?, hx8])⟩; have HV8 := Lib.hid ((HV6r.out.below ((Below.refl w6'.heap.size w6').alloc (Nat.le_refl _) (.cells #[.int .i64 id, .int .i64 t.kind, .int .i64 t.num, .string t.text, .slice ao3 t.kids.length cap3, .bool false] 35)) (fun b hb => by have := HZ6r.out; omega)).turn t8 (fun b hb => ⟨(by rw [size_alloc]; have := HZ6r.out; omega), hnA b hb.1⟩)); have HZ8 : Hid (w3r.heap.size ≤ w8r.heap.size) := Lib.hid (by have := HZ6r.out; have := t8.size; rw [size_alloc] at this; omega); clear hs7 t8 hs8 hx7 hnA hx8))
            | (at_builtin; go_loud (have hs9 := HS8r.out.below ((Below.refl _ w8r).alloc (Nat.le_refl _) (.cells #[.int .i64 id, .int .i64 t.kind, .int .i64 t.num, .string t.text, .slice ao3 t.kids.length cap3, .bool false] 35)); have hv9 := HV8.out.below ((Below.refl _ w8r).alloc (Nat.le_refl _) (.cells #[.int .i64 id, .int .i64 t.kind, .int .i64 t.num, .string t.text, .slice ao3 t.kids.length cap3, .bool false] 35)) (fun b hb => by have := HZ8.out; omega); have HS9 := Lib.hid hs9; refine wpList_appc (w := w8r.alloc (.cells #[.int .i64 id, .int .i64 t.kind, .int .i64 t.num, .string t.text, .slice ao3 t.kids.length cap3, .bool false] 35)) (N := W1.heap.size) (P := fun k => Pv k ∨ (wr.heap.size ≤ k ∧ k < w3r.heap.size)) (v := .slice a9 pend.length c9) (l := pend) (ch := (id, t, false)) (p := (ao3, cap3)) (ad := ⟨w8r.heap.size, 0, none⟩) (c := 1) rfl _ _ rfl rfl hs9.row rfl (cell_six_new _ _ _ _ _ _ _ _) (hv9.mono (fun b hb => .inr hb)) HIDW.out hs9.n (by have := HPL.out; have := HSZ.out; omega) (fun b hb => ⟨(hs9.p b hb).2.1, fun e => (hs9.own b e).2.2 hb⟩) ?_; clear hs9 hv9; intro ao9 cp9 w10r hr10 ho10; rw [HL.out] at hr10 ho10 ⊢; have HS10 := Lib.hid (HS9.out.app ho10 hr10); clear hr10 ho10)))
          obtain ⟨x0, x1, x2⟩ := HBX.out w10r HS10.out.w
          clear e0 e1 e2 e3 e4 e5
          by_cases hfl : L = sz
          · cases hbp : sb.apT ((pend ++ [(id, t, false)]).map chOf) with
            | error x =>
              have HBP := Lib.hid hbp
              have hxz := apT_ne hbp
              have z1 : (x != 0) = true := by simpa using hxz
              subst hfl
              clear hbp hxz
              go_wp2_with (go_at_call 11; go_loud (have hq := HS10.out.flushNo (by have := HLT2.out; omega) (by simp) (by have := HSZ.out; have := HL.out; simp; omega) HBP.out; (with_reducible refine hq.mono ?_); clear hq; rintro e w11r ⟨rfl, _, hb⟩; have HB11 := Lib.hid hb; clear hb))
              go_ret
              exact ⟨rfl, HWW.out _ (HS10.out.below HB11.out).w⟩
            | ok p2 =>
              have HBP := Lib.hid hbp
              subst hfl
              clear hbp
              go_upto_region 25 with (go_at_call 11; go_loud (have hq := HS10.out.flush (by have := HLT2.out; omega) (by simp) (by have := HSZ.out; have := HL.out; simp; omega) HBP.out; (with_reducible refine hq.mono ?_); clear hq; rintro e w11r ⟨rfl, s11', D11, B11, hs11⟩; have HSF := Lib.hid hs11; obtain ⟨x0, x1, x2⟩ := HBX.out w11r hs11.w; clear hs11))
              have HLF : Hid (([] : List CG).length < L) := by show 0 < L; have := HSZ.out; omega
              by_cases hjn : i < nt
              · obtain ⟨y, hy⟩ : ∃ y, ts[i]? = some y := ⟨_, List.getElem?_eq_getElem (by have := HNT.out.1; omega)⟩
                obtain ⟨gj, oj, rfl, hjl, hjc⟩ := HTS.out.at hy
                have HJ : Hid (∀ X, Below W1.heap.size W1 X → X.cell? ⟨gj, oj + i, none⟩ = some (.int .i64 y)) := fun X hX => ((HWW.out X hX).cell (p := ⟨gj, oj + i, none⟩) hjl).trans hjc
                have hj1 : (i : Int) < (nt : Int) := by omega
                obtain ⟨r, hr, hr1, hr2⟩ : ∃ r, y.tmod 3 = r ∧ -3 < r ∧ r < 3 := ⟨_, rfl, by have := Int.lt_tmod_of_pos y (show (0 : Int) < 3 by decide); omega, Int.tmod_lt_of_pos y (by decide)⟩
                have hr3 : IntKind.i64.wrap r = r := by rw [IntWalk.i64_left, IntWalk.wrap64_in _ ⟨by omega, by omega⟩]
                have hjF := HJ.out _ HSF.out.w
                clear hy hjl hjc hr1 hr2 hjn
                by_cases h0 : r = 0
                · subst h0
                  go_wp2_with (go_at_call 12; go_loud (have hq := HSF.out.ck (by have := HLT2.out; omega); (with_reducible refine hq.mono ?_); clear hq; rintro e wK ⟨rfl, sK, DK, AK, hsK⟩; have HSK := Lib.hid hsK; obtain ⟨u0, u1, u2⟩ := HBX.out wK hsK.w; have hjK := HJ.out wK hsK.w; clear hsK))
                  go_roundg (gk - 1)
                  case measure => have := HIK.out; have := HLT2.out; omega
                  case rel => exact ⟨i + 1, ba, _, _, _, _, _, _, _, _, by go_num, by have := HIK.out; have := HLT2.out; omega, rfl, HSK.out.later (by omega) (by omega), HLF.out⟩
                · by_cases h1 : r = 1
                  · subst h1
                    go_wp2_with (go_at_call 13; go_loud (have hq := HSF.out.anew; (with_reducible refine hq.mono ?_); clear hq; rintro e wK ⟨bK, rfl, DK, AK, hsK⟩; have HSK := Lib.hid hsK; clear hsK))
                    go_roundg (gk - 1)
                    case measure => have := HIK.out; have := HLT2.out; omega
                    case rel => exact ⟨i + 1, bK, _, _, _, _, _, _, _, _, by go_num, by have := HIK.out; have := HLT2.out; omega, rfl, HSK.out.later (by omega) (by omega), HLF.out⟩
                  · go_wp2
                    go_roundg (gk - 1)
                    case measure => have := HIK.out; have := HLT2.out; omega
                    case rel => exact ⟨i + 1, ba, _, _, _, _, _, _, _, _, by go_num, by have := HIK.out; have := HLT2.out; omega, rfl, HSF.out.later (by omega) (by omega), HLF.out⟩
              · have hj1 : ¬ (i : Int) < (nt : Int) := by omega
                clear hjn
                go_wp2
                go_roundg (gk - 1)
                case measure => have := HIK.out; have := HLT2.out; omega
                case rel => exact ⟨i + 1, ba, _, _, _, _, _, _, _, _, by go_num, by have := HIK.out; have := HLT2.out; omega, rfl, HSF.out.later (by omega) (by omega), HLF.out⟩
          · have hfl2 : ¬ ((L : Int) = (sz : Int)) := by omega
            have hfl3 : ((L : Int) == (sz : Int)) = false := by simpa using hfl2
            have HLF : Hid ((pend ++ [(id, t, false)]).length < sz) := by show _ < _; have := HPL.out; have := HL.out; simp; omega
            have HSF := HS10
            go_upto_region 25 with fail
            by_cases hjn : i < nt
            · obtain ⟨y, hy⟩ : ∃ y, ts[i]? = some y := ⟨_, List.getElem?_eq_getElem (by have := HNT.out.1; omega)⟩
              obtain ⟨gj, oj, rfl, hjl, hjc⟩ := HTS.out.at hy
              have HJ : Hid (∀ X, Below W1.heap.size W1 X → X.cell? ⟨gj, oj + i, none⟩ = some (.int .i64 y)) := fun X hX => ((HWW.out X hX).cell (p := ⟨gj, oj + i, none⟩) hjl).trans hjc
              have hj1 : (i : Int) < (nt : Int) := by omega
              obtain ⟨r, hr, hr1, hr2⟩ : ∃ r, y.tmod 3 = r ∧ -3 < r ∧ r < 3 := ⟨_, rfl, by have := Int.lt_tmod_of_pos y (show (0 : Int) < 3 by decide); omega, Int.tmod_lt_of_pos y (by decide)⟩
              have hr3 : IntKind.i64.wrap r = r := by rw [IntWalk.i64_left, IntWalk.wrap64_in _ ⟨by omega, by omega⟩]
              have hjF := HJ.out _ HSF.out.w
              clear hy hjl hjc hr1 hr2 hjn
              by_cases h0 : r = 0
              · subst h0
                go_wp2_with (go_at_call 12; go_loud (have hq := HSF.out.ck (by have := HLT2.out; omega); (with_reducible refine hq.mono ?_); clear hq; rintro e wK ⟨rfl, sK, DK, AK, hsK⟩; have HSK := Lib.hid hsK; obtain ⟨u0, u1, u2⟩ := HBX.out wK hsK.w; have hjK := HJ.out wK hsK.w; clear hsK))
                go_roundg (gk - 1)
                case measure => have := HIK.out; have := HLT2.out; omega
                case rel => exact ⟨i + 1, ba, _, _, _, _, _, _, _, _, by go_num, by have := HIK.out; have := HLT2.out; omega, rfl, HSK.out.later (by omega) (by omega), HLF.out⟩
              · by_cases h1 : r = 1
                · subst h1
                  go_wp2_with (go_at_call 13; go_loud (have hq := HSF.out.anew; (with_reducible refine hq.mono ?_); clear hq; rintro e wK ⟨bK, rfl, DK, AK, hsK⟩; have HSK := Lib.hid hsK; clear hsK))
                  go_roundg (gk - 1)
                  case measure => have := HIK.out; have := HLT2.out; omega
                  case rel => exact ⟨i + 1, bK, _, _, _, _, _, _, _, _, by go_num, by have := HIK.out; have := HLT2.out; omega, rfl, HSK.out.later (by omega) (by omega), HLF.out⟩
                · go_wp2
                  go_roundg (gk - 1)
                  case measure => have := HIK.out; have := HLT2.out; omega
                  case rel => exact ⟨i + 1, ba, _, _, _, _, _, _, _, _, by go_num, by have := HIK.out; have := HLT2.out; omega, rfl, HSF.out.later (by omega) (by omega), HLF.out⟩
            · have hj1 : ¬ (i : Int) < (nt : Int) := by omega
              clear hjn
              go_wp2
              go_roundg (gk - 1)
              case measure => have := HIK.out; have := HLT2.out; omega
              case rel => exact ⟨i + 1, ba, _, _, _, _, _, _, _, _, by go_num, by have := HIK.out; have := HLT2.out; omega, rfl, HSF.out.later (by omega) (by omega), HLF.out⟩
      · have z1 : (er != 0) = true := by simpa using h0
        clear h0
        go_wp2_with (go_at_call 34; (with_reducible refine HEN.out.mono ?_); rintro e w5r ⟨he, hb⟩; rw [HER.out] at he; subst he; have HB5r := Lib.hid hb; clear hb)
        go_roundg (gk - 1)
        case measure => have := HIK.out; have := HLT2.out; omega
        case rel => exact ⟨i + 1, ba, _, _, _, _, _, _, _, pend, by go_num, by have := HIK.out; have := HLT2.out; omega, rfl, (HS4r.out.below HB5r.out).later (by omega) (by omega), HPL.out⟩
    · obtain rfl : K = i := by omega
      have hkk := HKK.out
      have hww := HWW.out _ HS.out.w
      have HWR := Lib.hid hww
      have hex : ¬ (K : Int) < (n : Int) ∨ ((K : Int) < (n : Int) ∧ ¬ (K : Int) < 20) := by omega
      have HTB : Hid (1 + (K : Int) + 1 ≤ 4611686018427387904) := Lib.hid (by omega)
      clear hik hlt hkk hww
      rcases hex with hx1 | ⟨hx1, hx2⟩
      · go_upto_region 32 with fail
        by_cases hne : pend = []
        · subst hne
          have HSE := Lib.hid HS.out.ends
          clear HS
          go_upto_region 34 with (go_at_call 11; go_loud ((with_reducible refine (apply_none bb a9 c9 wr).mono ?_); rintro e w' ⟨rfl, rfl⟩))
          obtain ⟨o, ho⟩ : ∃ o, sa.objs = o := ⟨_, rfl⟩
          obtain ⟨nx, hnx⟩ : ∃ nx, sa.next = nx := ⟨_, rfl⟩
          rw [ho, hnx] at HSE
          obtain ⟨M, hM⟩ : ∃ M, o.length = M := ⟨_, rfl⟩
          obtain ⟨Z, hZ⟩ : ∃ Z, (St.image o nx).length = Z := ⟨_, rfl⟩
          have HM := Lib.hid hM
          have HZE := Lib.hid hZ
          clear ho hnx hM hZ
          go_wp2_with (first
            | (go_at_call 15; (with_reducible refine (HSE.out.ia wr (Below.refl _ _)).mono ?_); rintro e wf12 ⟨v12, rfl, hr12, hb12⟩; obtain ⟨a12, c12, hv12, _, _, _, hsh12⟩ := hr12.form; rw [List.length_map, HM.out] at hv12; subst hv12; have HR12 := Lib.hid hr12; have HSH12 := Lib.hid hsh12; have HB12 := Lib.hid hb12; clear hr12 hsh12 hb12)
            | (go_at_call 15; go_loud ((with_reducible refine (HSE.out.ib wf12 HB12.out).mono ?_); rintro e wf13 ⟨v13, rfl, hr13, hb13⟩; obtain ⟨a13, c13, hv13, _, _, _, hsh13⟩ := hr13.form; rw [List.length_map, HM.out] at hv13; subst hv13; have HR13 := Lib.hid hr13; have HSH13 := Lib.hid hsh13; have HR12b := Lib.hid (HR12.out.turn (M := fun _ => False) (Turn.of_below hb13) (fun _ _ h => h)); have HB13 := Lib.hid (HB12.out.trans (hb13.mono HB12.out.size)); clear hr13 hsh13 hb13))
            | (go_at_call 14; (with_reducible refine (HSE.out.na wf13 HB13.out).mono ?_); rintro e w' ⟨rfl, rfl⟩)
            | (go_at_call 14; go_loud ((with_reducible refine (HSE.out.nb wf13 HB13.out).mono ?_); rintro e w' ⟨rfl, rfl⟩))
            | (go_at_call 20; (with_reducible refine (HSE.out.za wf13 HB13.out).mono ?_); rintro e wf14 ⟨rfl, hb14⟩; rw [HZE.out]; have HB34 := Lib.hid hb14; have HB14 := Lib.hid (HB13.out.trans (hb14.mono HB13.out.size)); clear hb14)
            | (go_at_call 20; go_loud ((with_reducible refine (HSE.out.zb wf14 HB14.out).mono ?_); rintro e wf15 ⟨rfl, hb15⟩; rw [HZE.out]; have HB35 : Hid (Below wf13.heap.size wf13 wf15) := HB34.out.trans (hb15.mono HB34.out.size); have HB15 := Lib.hid (HB14.out.trans (hb15.mono HB14.out.size)); clear hb15)))
          go_loopg [21, 22, 23, 24, 25] M (fun gk2 s21 s22 s23 s24 s25 wr => EnI wf15 M gk2 s21 wr)
          case atStart => exact ⟨0, rfl, by omega, Below.refl _ _⟩
          case round =>
            obtain ⟨j, rfl, hjk, hbj⟩ := hrel
            have HJK := Lib.hid hjk
            have HBJ := Lib.hid hbj
            have HBJ3 := Lib.hid (HB35.out.trans (hbj.mono HB35.out.size))
            have HBJE := Lib.hid (HB15.out.trans (hbj.mono HB15.out.size))
            have j0 : (0 : Int) ≤ (j : Int) := by omega
            by_cases hjm : j < M
            · have j1 : (j : Int) < (M : Int) := by omega
              have j2 : (j : Int) ≤ 67108864 := by have := HSE.out.len; have := HM.out; omega
              obtain ⟨x, hx⟩ : ∃ x, o[j]? = some x := ⟨_, List.getElem?_eq_getElem (by have := HM.out; omega)⟩
              have HXM : Hid (x ∈ o) := List.mem_of_getElem? hx
              have hxj : (o.map fun x => Value.int .i64 x.1)[j]? = some (.int .i64 x.1) := by rw [List.getElem?_map, hx]; rfl
              obtain ⟨g12, rfl, hg12, hc12⟩ := HR12b.out.get hxj
              obtain ⟨g13, rfl, hg13, hc13⟩ := HR13.out.get hxj
              have HCC : Hid (∀ X, Below wf13.heap.size wf13 X → X.cell? ⟨g12, j, none⟩ = some (.int .i64 x.1) ∧ X.cell? ⟨g13, j, none⟩ = some (.int .i64 x.1)) := fun X hX => ⟨(hX.cell (p := ⟨g12, j, none⟩) hg12).trans hc12, (hX.cell (p := ⟨g13, j, none⟩) hg13).trans hc13⟩
              have HLTJ : Hid (j < M) := hjm
              obtain ⟨td, htd⟩ : ∃ td, (dec x.2).1 = td := ⟨_, rfl⟩
              have HTD := Lib.hid htd
              obtain ⟨k0, _⟩ := HCC.out wr HBJ3.out
              clear hjk hbj hx hxj hg12 hc12 hg13 hc13 hjm htd
              go_upto_region 42 with (first
                | (go_at_call 41; (with_reducible refine (HSE.out.ga wr x HBJE.out HXM.out).mono ?_); rintro e wg1 ⟨vg1, rfl, hv, hb⟩; rw [HTD.out] at hv; obtain ⟨aog1, capg1, hve⟩ := hv.form; replace hve : vg1 = .agg #[.int .i64 td.kind, .int .i64 td.num, .string td.text, .slice aog1 td.kids.length capg1] := hve; subst hve; have HVG1 := Lib.hid hv; have HBG1 := Lib.hid hb; have HBG13 := Lib.hid ((HBJ3.out.trans (hb.mono HBJ3.out.size)).alloc (Nat.le_trans HBJ3.out.size hb.size) (.cells #[.int .i64 td.kind, .int .i64 td.num, .string td.text, .slice aog1 td.kids.length capg1] 33)); have HBG1E := Lib.hid ((HBJE.out.trans (hb.mono HBJE.out.size)).alloc (Nat.le_trans HBJE.out.size hb.size) (.cells #[.int .i64 td.kind, .int .i64 td.num, .string td.text, .slice aog1 td.kids.length capg1] 33)); obtain ⟨k2, _⟩ := HCC.out _ HBG13.out; clear hv hb)
                | (go_at_call 41; go_loud ((with_reducible refine (HSE.out.gb _ x HBG1E.out HXM.out).mono ?_); rintro e wg2 ⟨vg2, rfl, hv, hb⟩; rw [HTD.out] at hv; obtain ⟨aog2, capg2, hve⟩ := hv.form; replace hve : vg2 = .agg #[.int .i64 td.kind, .int .i64 td.num, .string td.text, .slice aog2 td.kids.length capg2] := hve; subst hve; have HVG2 := Lib.hid hv; have HBG2 := Lib.hid hb; clear hv hb)))
              have hx1 := heap_alloc_new wg1 (.cells #[.int .i64 td.kind, .int .i64 td.num, .string td.text, .slice aog1 td.kids.length capg1] 33)
              have hb17 := (Below.refl wg2.heap.size wg2).alloc (Nat.le_refl _) (.cells #[.int .i64 td.kind, .int .i64 td.num, .string td.text, .slice aog2 td.kids.length capg2] 33)
              have hx1b := (hb17.block _ (lt_of_block ((HBG2.out.block _ (lt_of_block hx1)).trans hx1))).trans ((HBG2.out.block _ (lt_of_block hx1)).trans hx1)
              have hx2 := heap_alloc_new wg2 (.cells #[.int .i64 td.kind, .int .i64 td.num, .string td.text, .slice aog2 td.kids.length capg2] 33)
              have hba := (Below.refl wg1.heap.size wg1).alloc (Nat.le_refl _) (.cells #[.int .i64 td.kind, .int .i64 td.num, .string td.text, .slice aog1 td.kids.length capg1] 33)
              have hv1 := ((HVG1.out.below hba (fun b hb => hb.2)).below HBG2.out (fun b hb => by have := hba.size; have := hb.2; omega)).below hb17 (fun b hb => by have := hba.size; have := HBG2.out.size; have := hb.2; omega)
              have hv2 := HVG2.out.below hb17 (fun b hb => hb.2)
              have hbj := (HBG13.out.trans (HBG2.out.mono HBG13.out.size)).trans (hb17.mono (Nat.le_trans HBG13.out.size HBG2.out.size))
              have hbr := ((HBJ.out.trans (HBG1.out.mono HBJ.out.size)).trans (hba.mono (Nat.le_trans HBJ.out.size HBG1.out.size)))
              have hbr2 := (hbr.trans (HBG2.out.mono hbr.size)).trans (hb17.mono (Nat.le_trans hbr.size HBG2.out.size))
              have hs1 : wg1.heap.size < (wg2.alloc (.cells #[.int .i64 td.kind, .int .i64 td.num, .string td.text, .slice aog2 td.kids.length capg2] 33)).heap.size := lt_of_block hx1b
              have hs2 : wg2.heap.size < (wg2.alloc (.cells #[.int .i64 td.kind, .int .i64 td.num, .string td.text, .slice aog2 td.kids.length capg2] 33)).heap.size := lt_of_block hx2
              generalize wg1.heap.size = q1 at hx1b hs1 hv1 ⊢
              generalize wg2.heap.size = q2 at hx2 hs2 hv2 ⊢
              generalize wg2.alloc (.cells #[.int .i64 td.kind, .int .i64 td.num, .string td.text, .slice aog2 td.kids.length capg2] 33) = w18 at hx1b hx2 hv1 hv2 hbj hbr2 hs1 hs2 ⊢
              have HX1 := Lib.hid hx1b
              have HX2 := Lib.hid hx2
              have HV1 : Hid (ValIs w18 (fun b => b < w18.heap.size) td (.agg #[.int .i64 td.kind, .int .i64 td.num, .string td.text, .slice aog1 td.kids.length capg1])) := hv1.mono (fun b hb => by omega)
              have HV2 : Hid (ValIs w18 (fun b => b < w18.heap.size) td (.agg #[.int .i64 td.kind, .int .i64 td.num, .string td.text, .slice aog2 td.kids.length capg2])) := hv2.mono (fun b hb => by omega)
              have HBJ18 := Lib.hid hbj
              have HBR18 := Lib.hid hbr2
              have HSS : Hid (∀ X, Below w18.heap.size w18 X → X.cell? ⟨q1, 0, none⟩ = some (.int .i64 td.kind) ∧ X.cell? ⟨q1, 1, none⟩ = some (.int .i64 td.num) ∧ X.cell? ⟨q1, 2, none⟩ = some (.string td.text) ∧ X.cell? ⟨q1, 3, none⟩ = some (.slice aog1 td.kids.length capg1) ∧ X.cell? ⟨q2, 0, none⟩ = some (.int .i64 td.kind) ∧ X.cell? ⟨q2, 1, none⟩ = some (.int .i64 td.num) ∧ X.cell? ⟨q2, 2, none⟩ = some (.string td.text) ∧ X.cell? ⟨q2, 3, none⟩ = some (.slice aog2 td.kids.length capg2) ∧ X.cell? ⟨g12, j, none⟩ = some (.int .i64 x.1) ∧ X.cell? ⟨g13, j, none⟩ = some (.int .i64 x.1)) := fun X hX => by
                obtain ⟨a0, a1, a2, a3, _⟩ := hdr4_cells ((hX.block _ (lt_of_block HX1.out)).trans HX1.out)
                obtain ⟨b0, b1, b2, b3, _⟩ := hdr4_cells ((hX.block _ (lt_of_block HX2.out)).trans HX2.out)
                obtain ⟨c0, c1⟩ := HCC.out X (HBJ18.out.trans (hX.mono HBJ18.out.size))
                exact ⟨a0, a1, a2, a3, b0, b1, b2, b3, c0, c1⟩
              clear hx1 hb17 hx1b hx2 hba hv1 hv2 hbj hbr hbr2 hs1 hs2 k0 k2
              go_region_held3 (fun X => X.cell? ⟨q1, 0, none⟩ = some (.int .i64 td.kind) ∧ X.cell? ⟨q1, 1, none⟩ = some (.int .i64 td.num) ∧ X.cell? ⟨q1, 2, none⟩ = some (.string td.text) ∧ X.cell? ⟨q1, 3, none⟩ = some (.slice aog1 td.kids.length capg1) ∧ X.cell? ⟨q2, 0, none⟩ = some (.int .i64 td.kind) ∧ X.cell? ⟨q2, 1, none⟩ = some (.int .i64 td.num) ∧ X.cell? ⟨q2, 2, none⟩ = some (.string td.text) ∧ X.cell? ⟨q2, 3, none⟩ = some (.slice aog2 td.kids.length capg2) ∧ X.cell? ⟨g12, j, none⟩ = some (.int .i64 x.1) ∧ X.cell? ⟨g13, j, none⟩ = some (.int .i64 x.1))
                (first | exact HSS.out _ (Below.refl _ _).drew | exact HSS.out _ HBY.out)
                (first
                  | (go_at_call 42; go_loud (have hq := same_walk td.sz td td _ _ w18.drew (fun b => b < w18.heap.size) (Nat.le_refl _) (HV1.out.below (Below.refl _ _).drew (fun b hb => hb)) (HV2.out.below (Below.refl _ _).drew (fun b hb => hb)) (fun b hb => hb); rw [VT.same_refl] at hq; (with_reducible refine hq.mono ?_); clear hq; rintro e wY ⟨rfl, hb⟩; have HBY : Hid (Below w18.heap.size w18 wY) := (Below.refl w18.heap.size w18).drew.trans hb; clear hb)))
              (try dsimp only [Exit.then])
              apply_assumption
              go_wp2
              go_roundg (gk - 1)
              case measure => have := HJK.out; have := HLTJ.out; omega
              case rel => exact ⟨j + 1, by go_num, by have := HJK.out; have := HLTJ.out; omega, HBR18.out.trans (HBY.out.mono HBR18.out.size)⟩
            · obtain rfl : M = j := by omega
              have j1 : ¬ (M : Int) < (M : Int) := by omega
              clear hjk hbj hjm
              go_wp2
              go_ret
              exact ⟨rfl, HWW.out _ (HSE.out.w.trans (HBJE.out.mono HSE.out.n))⟩
        · have HNE := Lib.hid hne
          cases hbp : sb.apT (pend.map chOf) with
          | error x =>
            have HBP := Lib.hid hbp
            have hxz := apT_ne hbp
            have z1 : (x != 0) = true := by simpa using hxz
            clear hbp hxz hne
            go_wp2_with (go_at_call 11; go_loud (have hq := HS.out.flushNo HTB.out HNE.out (by have := HSZ.out; have := HPL.out; omega) HBP.out; (with_reducible refine hq.mono ?_); clear hq; rintro e w11r ⟨rfl, _, hb⟩; have HB11 := Lib.hid hb; clear hb))
            go_ret
            exact ⟨rfl, HWW.out _ (HS.out.below HB11.out).w⟩
          | ok p2 =>
            have HBP := Lib.hid hbp
            clear hbp hne
            go_upto_region 34 with (go_at_call 11; go_loud (have hq := HS.out.flush HTB.out HNE.out (by have := HSZ.out; have := HPL.out; omega) HBP.out; (with_reducible refine hq.mono ?_); clear hq; rintro e w11r ⟨rfl, s11', D11, B11, hs11⟩; have HSE := Lib.hid hs11.ends; clear hs11))
            clear HS
            obtain ⟨o, ho⟩ : ∃ o, sa.objs = o := ⟨_, rfl⟩
            obtain ⟨nx, hnx⟩ : ∃ nx, sa.next = nx := ⟨_, rfl⟩
            rw [ho, hnx] at HSE
            obtain ⟨M, hM⟩ : ∃ M, o.length = M := ⟨_, rfl⟩
            obtain ⟨Z, hZ⟩ : ∃ Z, (St.image o nx).length = Z := ⟨_, rfl⟩
            have HM := Lib.hid hM
            have HZE := Lib.hid hZ
            clear ho hnx hM hZ
            go_wp2_with (first
              | (go_at_call 15; (with_reducible refine (HSE.out.ia w11r (Below.refl _ _)).mono ?_); rintro e wf12 ⟨v12, rfl, hr12, hb12⟩; obtain ⟨a12, c12, hv12, _, _, _, hsh12⟩ := hr12.form; rw [List.length_map, HM.out] at hv12; subst hv12; have HR12 := Lib.hid hr12; have HSH12 := Lib.hid hsh12; have HB12 := Lib.hid hb12; clear hr12 hsh12 hb12)
              | (go_at_call 15; go_loud ((with_reducible refine (HSE.out.ib wf12 HB12.out).mono ?_); rintro e wf13 ⟨v13, rfl, hr13, hb13⟩; obtain ⟨a13, c13, hv13, _, _, _, hsh13⟩ := hr13.form; rw [List.length_map, HM.out] at hv13; subst hv13; have HR13 := Lib.hid hr13; have HSH13 := Lib.hid hsh13; have HR12b := Lib.hid (HR12.out.turn (M := fun _ => False) (Turn.of_below hb13) (fun _ _ h => h)); have HB13 := Lib.hid (HB12.out.trans (hb13.mono HB12.out.size)); clear hr13 hsh13 hb13))
              | (go_at_call 14; (with_reducible refine (HSE.out.na wf13 HB13.out).mono ?_); rintro e w' ⟨rfl, rfl⟩)
              | (go_at_call 14; go_loud ((with_reducible refine (HSE.out.nb wf13 HB13.out).mono ?_); rintro e w' ⟨rfl, rfl⟩))
              | (go_at_call 20; (with_reducible refine (HSE.out.za wf13 HB13.out).mono ?_); rintro e wf14 ⟨rfl, hb14⟩; rw [HZE.out]; have HB34 := Lib.hid hb14; have HB14 := Lib.hid (HB13.out.trans (hb14.mono HB13.out.size)); clear hb14)
              | (go_at_call 20; go_loud ((with_reducible refine (HSE.out.zb wf14 HB14.out).mono ?_); rintro e wf15 ⟨rfl, hb15⟩; rw [HZE.out]; have HB35 : Hid (Below wf13.heap.size wf13 wf15) := HB34.out.trans (hb15.mono HB34.out.size); have HB15 := Lib.hid (HB14.out.trans (hb15.mono HB14.out.size)); clear hb15)))
            go_loopg [21, 22, 23, 24, 25] M (fun gk2 s21 s22 s23 s24 s25 wr => EnI wf15 M gk2 s21 wr)
            case atStart => exact ⟨0, rfl, by omega, Below.refl _ _⟩
            case round =>
              obtain ⟨j, rfl, hjk, hbj⟩ := hrel
              have HJK := Lib.hid hjk
              have HBJ := Lib.hid hbj
              have HBJ3 := Lib.hid (HB35.out.trans (hbj.mono HB35.out.size))
              have HBJE := Lib.hid (HB15.out.trans (hbj.mono HB15.out.size))
              have j0 : (0 : Int) ≤ (j : Int) := by omega
              by_cases hjm : j < M
              · have j1 : (j : Int) < (M : Int) := by omega
                have j2 : (j : Int) ≤ 67108864 := by have := HSE.out.len; have := HM.out; omega
                obtain ⟨x, hx⟩ : ∃ x, o[j]? = some x := ⟨_, List.getElem?_eq_getElem (by have := HM.out; omega)⟩
                have HXM : Hid (x ∈ o) := List.mem_of_getElem? hx
                have hxj : (o.map fun x => Value.int .i64 x.1)[j]? = some (.int .i64 x.1) := by rw [List.getElem?_map, hx]; rfl
                obtain ⟨g12, rfl, hg12, hc12⟩ := HR12b.out.get hxj
                obtain ⟨g13, rfl, hg13, hc13⟩ := HR13.out.get hxj
                have HCC : Hid (∀ X, Below wf13.heap.size wf13 X → X.cell? ⟨g12, j, none⟩ = some (.int .i64 x.1) ∧ X.cell? ⟨g13, j, none⟩ = some (.int .i64 x.1)) := fun X hX => ⟨(hX.cell (p := ⟨g12, j, none⟩) hg12).trans hc12, (hX.cell (p := ⟨g13, j, none⟩) hg13).trans hc13⟩
                have HLTJ : Hid (j < M) := hjm
                obtain ⟨td, htd⟩ : ∃ td, (dec x.2).1 = td := ⟨_, rfl⟩
                have HTD := Lib.hid htd
                obtain ⟨k0, _⟩ := HCC.out wr HBJ3.out
                clear hjk hbj hx hxj hg12 hc12 hg13 hc13 hjm htd
                go_upto_region 42 with (first
                  | (go_at_call 41; (with_reducible refine (HSE.out.ga wr x HBJE.out HXM.out).mono ?_); rintro e wg1 ⟨vg1, rfl, hv, hb⟩; rw [HTD.out] at hv; obtain ⟨aog1, capg1, hve⟩ := hv.form; replace hve : vg1 = .agg #[.int .i64 td.kind, .int .i64 td.num, .string td.text, .slice aog1 td.kids.length capg1] := hve; subst hve; have HVG1 := Lib.hid hv; have HBG1 := Lib.hid hb; have HBG13 := Lib.hid ((HBJ3.out.trans (hb.mono HBJ3.out.size)).alloc (Nat.le_trans HBJ3.out.size hb.size) (.cells #[.int .i64 td.kind, .int .i64 td.num, .string td.text, .slice aog1 td.kids.length capg1] 33)); have HBG1E := Lib.hid ((HBJE.out.trans (hb.mono HBJE.out.size)).alloc (Nat.le_trans HBJE.out.size hb.size) (.cells #[.int .i64 td.kind, .int .i64 td.num, .string td.text, .slice aog1 td.kids.length capg1] 33)); obtain ⟨k2, _⟩ := HCC.out _ HBG13.out; clear hv hb)
                  | (go_at_call 41; go_loud ((with_reducible refine (HSE.out.gb _ x HBG1E.out HXM.out).mono ?_); rintro e wg2 ⟨vg2, rfl, hv, hb⟩; rw [HTD.out] at hv; obtain ⟨aog2, capg2, hve⟩ := hv.form; replace hve : vg2 = .agg #[.int .i64 td.kind, .int .i64 td.num, .string td.text, .slice aog2 td.kids.length capg2] := hve; subst hve; have HVG2 := Lib.hid hv; have HBG2 := Lib.hid hb; clear hv hb)))
                have hx1 := heap_alloc_new wg1 (.cells #[.int .i64 td.kind, .int .i64 td.num, .string td.text, .slice aog1 td.kids.length capg1] 33)
                have hb17 := (Below.refl wg2.heap.size wg2).alloc (Nat.le_refl _) (.cells #[.int .i64 td.kind, .int .i64 td.num, .string td.text, .slice aog2 td.kids.length capg2] 33)
                have hx1b := (hb17.block _ (lt_of_block ((HBG2.out.block _ (lt_of_block hx1)).trans hx1))).trans ((HBG2.out.block _ (lt_of_block hx1)).trans hx1)
                have hx2 := heap_alloc_new wg2 (.cells #[.int .i64 td.kind, .int .i64 td.num, .string td.text, .slice aog2 td.kids.length capg2] 33)
                have hba := (Below.refl wg1.heap.size wg1).alloc (Nat.le_refl _) (.cells #[.int .i64 td.kind, .int .i64 td.num, .string td.text, .slice aog1 td.kids.length capg1] 33)
                have hv1 := ((HVG1.out.below hba (fun b hb => hb.2)).below HBG2.out (fun b hb => by have := hba.size; have := hb.2; omega)).below hb17 (fun b hb => by have := hba.size; have := HBG2.out.size; have := hb.2; omega)
                have hv2 := HVG2.out.below hb17 (fun b hb => hb.2)
                have hbj := (HBG13.out.trans (HBG2.out.mono HBG13.out.size)).trans (hb17.mono (Nat.le_trans HBG13.out.size HBG2.out.size))
                have hbr := ((HBJ.out.trans (HBG1.out.mono HBJ.out.size)).trans (hba.mono (Nat.le_trans HBJ.out.size HBG1.out.size)))
                have hbr2 := (hbr.trans (HBG2.out.mono hbr.size)).trans (hb17.mono (Nat.le_trans hbr.size HBG2.out.size))
                have hs1 : wg1.heap.size < (wg2.alloc (.cells #[.int .i64 td.kind, .int .i64 td.num, .string td.text, .slice aog2 td.kids.length capg2] 33)).heap.size := lt_of_block hx1b
                have hs2 : wg2.heap.size < (wg2.alloc (.cells #[.int .i64 td.kind, .int .i64 td.num, .string td.text, .slice aog2 td.kids.length capg2] 33)).heap.size := lt_of_block hx2
                generalize wg1.heap.size = q1 at hx1b hs1 hv1 ⊢
                generalize wg2.heap.size = q2 at hx2 hs2 hv2 ⊢
                generalize wg2.alloc (.cells #[.int .i64 td.kind, .int .i64 td.num, .string td.text, .slice aog2 td.kids.length capg2] 33) = w18 at hx1b hx2 hv1 hv2 hbj hbr2 hs1 hs2 ⊢
                have HX1 := Lib.hid hx1b
                have HX2 := Lib.hid hx2
                have HV1 : Hid (ValIs w18 (fun b => b < w18.heap.size) td (.agg #[.int .i64 td.kind, .int .i64 td.num, .string td.text, .slice aog1 td.kids.length capg1])) := hv1.mono (fun b hb => by omega)
                have HV2 : Hid (ValIs w18 (fun b => b < w18.heap.size) td (.agg #[.int .i64 td.kind, .int .i64 td.num, .string td.text, .slice aog2 td.kids.length capg2])) := hv2.mono (fun b hb => by omega)
                have HBJ18 := Lib.hid hbj
                have HBR18 := Lib.hid hbr2
                have HSS : Hid (∀ X, Below w18.heap.size w18 X → X.cell? ⟨q1, 0, none⟩ = some (.int .i64 td.kind) ∧ X.cell? ⟨q1, 1, none⟩ = some (.int .i64 td.num) ∧ X.cell? ⟨q1, 2, none⟩ = some (.string td.text) ∧ X.cell? ⟨q1, 3, none⟩ = some (.slice aog1 td.kids.length capg1) ∧ X.cell? ⟨q2, 0, none⟩ = some (.int .i64 td.kind) ∧ X.cell? ⟨q2, 1, none⟩ = some (.int .i64 td.num) ∧ X.cell? ⟨q2, 2, none⟩ = some (.string td.text) ∧ X.cell? ⟨q2, 3, none⟩ = some (.slice aog2 td.kids.length capg2) ∧ X.cell? ⟨g12, j, none⟩ = some (.int .i64 x.1) ∧ X.cell? ⟨g13, j, none⟩ = some (.int .i64 x.1)) := fun X hX => by
                  obtain ⟨a0, a1, a2, a3, _⟩ := hdr4_cells ((hX.block _ (lt_of_block HX1.out)).trans HX1.out)
                  obtain ⟨b0, b1, b2, b3, _⟩ := hdr4_cells ((hX.block _ (lt_of_block HX2.out)).trans HX2.out)
                  obtain ⟨c0, c1⟩ := HCC.out X (HBJ18.out.trans (hX.mono HBJ18.out.size))
                  exact ⟨a0, a1, a2, a3, b0, b1, b2, b3, c0, c1⟩
                clear hx1 hb17 hx1b hx2 hba hv1 hv2 hbj hbr hbr2 hs1 hs2 k0 k2
                go_region_held3 (fun X => X.cell? ⟨q1, 0, none⟩ = some (.int .i64 td.kind) ∧ X.cell? ⟨q1, 1, none⟩ = some (.int .i64 td.num) ∧ X.cell? ⟨q1, 2, none⟩ = some (.string td.text) ∧ X.cell? ⟨q1, 3, none⟩ = some (.slice aog1 td.kids.length capg1) ∧ X.cell? ⟨q2, 0, none⟩ = some (.int .i64 td.kind) ∧ X.cell? ⟨q2, 1, none⟩ = some (.int .i64 td.num) ∧ X.cell? ⟨q2, 2, none⟩ = some (.string td.text) ∧ X.cell? ⟨q2, 3, none⟩ = some (.slice aog2 td.kids.length capg2) ∧ X.cell? ⟨g12, j, none⟩ = some (.int .i64 x.1) ∧ X.cell? ⟨g13, j, none⟩ = some (.int .i64 x.1))
                  (first | exact HSS.out _ (Below.refl _ _).drew | exact HSS.out _ HBY.out)
                  (first
                    | (go_at_call 42; go_loud (have hq := same_walk td.sz td td _ _ w18.drew (fun b => b < w18.heap.size) (Nat.le_refl _) (HV1.out.below (Below.refl _ _).drew (fun b hb => hb)) (HV2.out.below (Below.refl _ _).drew (fun b hb => hb)) (fun b hb => hb); rw [VT.same_refl] at hq; (with_reducible refine hq.mono ?_); clear hq; rintro e wY ⟨rfl, hb⟩; have HBY : Hid (Below w18.heap.size w18 wY) := (Below.refl w18.heap.size w18).drew.trans hb; clear hb)))
                (try dsimp only [Exit.then])
                apply_assumption
                go_wp2
                go_roundg (gk - 1)
                case measure => have := HJK.out; have := HLTJ.out; omega
                case rel => exact ⟨j + 1, by go_num, by have := HJK.out; have := HLTJ.out; omega, HBR18.out.trans (HBY.out.mono HBR18.out.size)⟩
              · obtain rfl : M = j := by omega
                have j1 : ¬ (M : Int) < (M : Int) := by omega
                clear hjk hbj hjm
                go_wp2
                go_ret
                exact ⟨rfl, HWW.out _ (HSE.out.w.trans (HBJE.out.mono HSE.out.n))⟩
      · go_upto_region 32 with fail
        by_cases hne : pend = []
        · subst hne
          have HSE := Lib.hid HS.out.ends
          clear HS
          go_upto_region 34 with (go_at_call 11; go_loud ((with_reducible refine (apply_none bb a9 c9 wr).mono ?_); rintro e w' ⟨rfl, rfl⟩))
          obtain ⟨o, ho⟩ : ∃ o, sa.objs = o := ⟨_, rfl⟩
          obtain ⟨nx, hnx⟩ : ∃ nx, sa.next = nx := ⟨_, rfl⟩
          rw [ho, hnx] at HSE
          obtain ⟨M, hM⟩ : ∃ M, o.length = M := ⟨_, rfl⟩
          obtain ⟨Z, hZ⟩ : ∃ Z, (St.image o nx).length = Z := ⟨_, rfl⟩
          have HM := Lib.hid hM
          have HZE := Lib.hid hZ
          clear ho hnx hM hZ
          go_wp2_with (first
            | (go_at_call 15; (with_reducible refine (HSE.out.ia wr (Below.refl _ _)).mono ?_); rintro e wf12 ⟨v12, rfl, hr12, hb12⟩; obtain ⟨a12, c12, hv12, _, _, _, hsh12⟩ := hr12.form; rw [List.length_map, HM.out] at hv12; subst hv12; have HR12 := Lib.hid hr12; have HSH12 := Lib.hid hsh12; have HB12 := Lib.hid hb12; clear hr12 hsh12 hb12)
            | (go_at_call 15; go_loud ((with_reducible refine (HSE.out.ib wf12 HB12.out).mono ?_); rintro e wf13 ⟨v13, rfl, hr13, hb13⟩; obtain ⟨a13, c13, hv13, _, _, _, hsh13⟩ := hr13.form; rw [List.length_map, HM.out] at hv13; subst hv13; have HR13 := Lib.hid hr13; have HSH13 := Lib.hid hsh13; have HR12b := Lib.hid (HR12.out.turn (M := fun _ => False) (Turn.of_below hb13) (fun _ _ h => h)); have HB13 := Lib.hid (HB12.out.trans (hb13.mono HB12.out.size)); clear hr13 hsh13 hb13))
            | (go_at_call 14; (with_reducible refine (HSE.out.na wf13 HB13.out).mono ?_); rintro e w' ⟨rfl, rfl⟩)
            | (go_at_call 14; go_loud ((with_reducible refine (HSE.out.nb wf13 HB13.out).mono ?_); rintro e w' ⟨rfl, rfl⟩))
            | (go_at_call 20; (with_reducible refine (HSE.out.za wf13 HB13.out).mono ?_); rintro e wf14 ⟨rfl, hb14⟩; rw [HZE.out]; have HB34 := Lib.hid hb14; have HB14 := Lib.hid (HB13.out.trans (hb14.mono HB13.out.size)); clear hb14)
            | (go_at_call 20; go_loud ((with_reducible refine (HSE.out.zb wf14 HB14.out).mono ?_); rintro e wf15 ⟨rfl, hb15⟩; rw [HZE.out]; have HB35 : Hid (Below wf13.heap.size wf13 wf15) := HB34.out.trans (hb15.mono HB34.out.size); have HB15 := Lib.hid (HB14.out.trans (hb15.mono HB14.out.size)); clear hb15)))
          go_loopg [21, 22, 23, 24, 25] M (fun gk2 s21 s22 s23 s24 s25 wr => EnI wf15 M gk2 s21 wr)
          case atStart => exact ⟨0, rfl, by omega, Below.refl _ _⟩
          case round =>
            obtain ⟨j, rfl, hjk, hbj⟩ := hrel
            have HJK := Lib.hid hjk
            have HBJ := Lib.hid hbj
            have HBJ3 := Lib.hid (HB35.out.trans (hbj.mono HB35.out.size))
            have HBJE := Lib.hid (HB15.out.trans (hbj.mono HB15.out.size))
            have j0 : (0 : Int) ≤ (j : Int) := by omega
            by_cases hjm : j < M
            · have j1 : (j : Int) < (M : Int) := by omega
              have j2 : (j : Int) ≤ 67108864 := by have := HSE.out.len; have := HM.out; omega
              obtain ⟨x, hx⟩ : ∃ x, o[j]? = some x := ⟨_, List.getElem?_eq_getElem (by have := HM.out; omega)⟩
              have HXM : Hid (x ∈ o) := List.mem_of_getElem? hx
              have hxj : (o.map fun x => Value.int .i64 x.1)[j]? = some (.int .i64 x.1) := by rw [List.getElem?_map, hx]; rfl
              obtain ⟨g12, rfl, hg12, hc12⟩ := HR12b.out.get hxj
              obtain ⟨g13, rfl, hg13, hc13⟩ := HR13.out.get hxj
              have HCC : Hid (∀ X, Below wf13.heap.size wf13 X → X.cell? ⟨g12, j, none⟩ = some (.int .i64 x.1) ∧ X.cell? ⟨g13, j, none⟩ = some (.int .i64 x.1)) := fun X hX => ⟨(hX.cell (p := ⟨g12, j, none⟩) hg12).trans hc12, (hX.cell (p := ⟨g13, j, none⟩) hg13).trans hc13⟩
              have HLTJ : Hid (j < M) := hjm
              obtain ⟨td, htd⟩ : ∃ td, (dec x.2).1 = td := ⟨_, rfl⟩
              have HTD := Lib.hid htd
              obtain ⟨k0, _⟩ := HCC.out wr HBJ3.out
              clear hjk hbj hx hxj hg12 hc12 hg13 hc13 hjm htd
              go_upto_region 42 with (first
                | (go_at_call 41; (with_reducible refine (HSE.out.ga wr x HBJE.out HXM.out).mono ?_); rintro e wg1 ⟨vg1, rfl, hv, hb⟩; rw [HTD.out] at hv; obtain ⟨aog1, capg1, hve⟩ := hv.form; replace hve : vg1 = .agg #[.int .i64 td.kind, .int .i64 td.num, .string td.text, .slice aog1 td.kids.length capg1] := hve; subst hve; have HVG1 := Lib.hid hv; have HBG1 := Lib.hid hb; have HBG13 := Lib.hid ((HBJ3.out.trans (hb.mono HBJ3.out.size)).alloc (Nat.le_trans HBJ3.out.size hb.size) (.cells #[.int .i64 td.kind, .int .i64 td.num, .string td.text, .slice aog1 td.kids.length capg1] 33)); have HBG1E := Lib.hid ((HBJE.out.trans (hb.mono HBJE.out.size)).alloc (Nat.le_trans HBJE.out.size hb.size) (.cells #[.int .i64 td.kind, .int .i64 td.num, .string td.text, .slice aog1 td.kids.length capg1] 33)); obtain ⟨k2, _⟩ := HCC.out _ HBG13.out; clear hv hb)
                | (go_at_call 41; go_loud ((with_reducible refine (HSE.out.gb _ x HBG1E.out HXM.out).mono ?_); rintro e wg2 ⟨vg2, rfl, hv, hb⟩; rw [HTD.out] at hv; obtain ⟨aog2, capg2, hve⟩ := hv.form; replace hve : vg2 = .agg #[.int .i64 td.kind, .int .i64 td.num, .string td.text, .slice aog2 td.kids.length capg2] := hve; subst hve; have HVG2 := Lib.hid hv; have HBG2 := Lib.hid hb; clear hv hb)))
              have hx1 := heap_alloc_new wg1 (.cells #[.int .i64 td.kind, .int .i64 td.num, .string td.text, .slice aog1 td.kids.length capg1] 33)
              have hb17 := (Below.refl wg2.heap.size wg2).alloc (Nat.le_refl _) (.cells #[.int .i64 td.kind, .int .i64 td.num, .string td.text, .slice aog2 td.kids.length capg2] 33)
              have hx1b := (hb17.block _ (lt_of_block ((HBG2.out.block _ (lt_of_block hx1)).trans hx1))).trans ((HBG2.out.block _ (lt_of_block hx1)).trans hx1)
              have hx2 := heap_alloc_new wg2 (.cells #[.int .i64 td.kind, .int .i64 td.num, .string td.text, .slice aog2 td.kids.length capg2] 33)
              have hba := (Below.refl wg1.heap.size wg1).alloc (Nat.le_refl _) (.cells #[.int .i64 td.kind, .int .i64 td.num, .string td.text, .slice aog1 td.kids.length capg1] 33)
              have hv1 := ((HVG1.out.below hba (fun b hb => hb.2)).below HBG2.out (fun b hb => by have := hba.size; have := hb.2; omega)).below hb17 (fun b hb => by have := hba.size; have := HBG2.out.size; have := hb.2; omega)
              have hv2 := HVG2.out.below hb17 (fun b hb => hb.2)
              have hbj := (HBG13.out.trans (HBG2.out.mono HBG13.out.size)).trans (hb17.mono (Nat.le_trans HBG13.out.size HBG2.out.size))
              have hbr := ((HBJ.out.trans (HBG1.out.mono HBJ.out.size)).trans (hba.mono (Nat.le_trans HBJ.out.size HBG1.out.size)))
              have hbr2 := (hbr.trans (HBG2.out.mono hbr.size)).trans (hb17.mono (Nat.le_trans hbr.size HBG2.out.size))
              have hs1 : wg1.heap.size < (wg2.alloc (.cells #[.int .i64 td.kind, .int .i64 td.num, .string td.text, .slice aog2 td.kids.length capg2] 33)).heap.size := lt_of_block hx1b
              have hs2 : wg2.heap.size < (wg2.alloc (.cells #[.int .i64 td.kind, .int .i64 td.num, .string td.text, .slice aog2 td.kids.length capg2] 33)).heap.size := lt_of_block hx2
              generalize wg1.heap.size = q1 at hx1b hs1 hv1 ⊢
              generalize wg2.heap.size = q2 at hx2 hs2 hv2 ⊢
              generalize wg2.alloc (.cells #[.int .i64 td.kind, .int .i64 td.num, .string td.text, .slice aog2 td.kids.length capg2] 33) = w18 at hx1b hx2 hv1 hv2 hbj hbr2 hs1 hs2 ⊢
              have HX1 := Lib.hid hx1b
              have HX2 := Lib.hid hx2
              have HV1 : Hid (ValIs w18 (fun b => b < w18.heap.size) td (.agg #[.int .i64 td.kind, .int .i64 td.num, .string td.text, .slice aog1 td.kids.length capg1])) := hv1.mono (fun b hb => by omega)
              have HV2 : Hid (ValIs w18 (fun b => b < w18.heap.size) td (.agg #[.int .i64 td.kind, .int .i64 td.num, .string td.text, .slice aog2 td.kids.length capg2])) := hv2.mono (fun b hb => by omega)
              have HBJ18 := Lib.hid hbj
              have HBR18 := Lib.hid hbr2
              have HSS : Hid (∀ X, Below w18.heap.size w18 X → X.cell? ⟨q1, 0, none⟩ = some (.int .i64 td.kind) ∧ X.cell? ⟨q1, 1, none⟩ = some (.int .i64 td.num) ∧ X.cell? ⟨q1, 2, none⟩ = some (.string td.text) ∧ X.cell? ⟨q1, 3, none⟩ = some (.slice aog1 td.kids.length capg1) ∧ X.cell? ⟨q2, 0, none⟩ = some (.int .i64 td.kind) ∧ X.cell? ⟨q2, 1, none⟩ = some (.int .i64 td.num) ∧ X.cell? ⟨q2, 2, none⟩ = some (.string td.text) ∧ X.cell? ⟨q2, 3, none⟩ = some (.slice aog2 td.kids.length capg2) ∧ X.cell? ⟨g12, j, none⟩ = some (.int .i64 x.1) ∧ X.cell? ⟨g13, j, none⟩ = some (.int .i64 x.1)) := fun X hX => by
                obtain ⟨a0, a1, a2, a3, _⟩ := hdr4_cells ((hX.block _ (lt_of_block HX1.out)).trans HX1.out)
                obtain ⟨b0, b1, b2, b3, _⟩ := hdr4_cells ((hX.block _ (lt_of_block HX2.out)).trans HX2.out)
                obtain ⟨c0, c1⟩ := HCC.out X (HBJ18.out.trans (hX.mono HBJ18.out.size))
                exact ⟨a0, a1, a2, a3, b0, b1, b2, b3, c0, c1⟩
              clear hx1 hb17 hx1b hx2 hba hv1 hv2 hbj hbr hbr2 hs1 hs2 k0 k2
              go_region_held3 (fun X => X.cell? ⟨q1, 0, none⟩ = some (.int .i64 td.kind) ∧ X.cell? ⟨q1, 1, none⟩ = some (.int .i64 td.num) ∧ X.cell? ⟨q1, 2, none⟩ = some (.string td.text) ∧ X.cell? ⟨q1, 3, none⟩ = some (.slice aog1 td.kids.length capg1) ∧ X.cell? ⟨q2, 0, none⟩ = some (.int .i64 td.kind) ∧ X.cell? ⟨q2, 1, none⟩ = some (.int .i64 td.num) ∧ X.cell? ⟨q2, 2, none⟩ = some (.string td.text) ∧ X.cell? ⟨q2, 3, none⟩ = some (.slice aog2 td.kids.length capg2) ∧ X.cell? ⟨g12, j, none⟩ = some (.int .i64 x.1) ∧ X.cell? ⟨g13, j, none⟩ = some (.int .i64 x.1))
                (first | exact HSS.out _ (Below.refl _ _).drew | exact HSS.out _ HBY.out)
                (first
                  | (go_at_call 42; go_loud (have hq := same_walk td.sz td td _ _ w18.drew (fun b => b < w18.heap.size) (Nat.le_refl _) (HV1.out.below (Below.refl _ _).drew (fun b hb => hb)) (HV2.out.below (Below.refl _ _).drew (fun b hb => hb)) (fun b hb => hb); rw [VT.same_refl] at hq; (with_reducible refine hq.mono ?_); clear hq; rintro e wY ⟨rfl, hb⟩; have HBY : Hid (Below w18.heap.size w18 wY) := (Below.refl w18.heap.size w18).drew.trans hb; clear hb)))
              (try dsimp only [Exit.then])
              apply_assumption
              go_wp2
              go_roundg (gk - 1)
              case measure => have := HJK.out; have := HLTJ.out; omega
              case rel => exact ⟨j + 1, by go_num, by have := HJK.out; have := HLTJ.out; omega, HBR18.out.trans (HBY.out.mono HBR18.out.size)⟩
            · obtain rfl : M = j := by omega
              have j1 : ¬ (M : Int) < (M : Int) := by omega
              clear hjk hbj hjm
              go_wp2
              go_ret
              exact ⟨rfl, HWW.out _ (HSE.out.w.trans (HBJE.out.mono HSE.out.n))⟩
        · have HNE := Lib.hid hne
          cases hbp : sb.apT (pend.map chOf) with
          | error x =>
            have HBP := Lib.hid hbp
            have hxz := apT_ne hbp
            have z1 : (x != 0) = true := by simpa using hxz
            clear hbp hxz hne
            go_wp2_with (go_at_call 11; go_loud (have hq := HS.out.flushNo HTB.out HNE.out (by have := HSZ.out; have := HPL.out; omega) HBP.out; (with_reducible refine hq.mono ?_); clear hq; rintro e w11r ⟨rfl, _, hb⟩; have HB11 := Lib.hid hb; clear hb))
            go_ret
            exact ⟨rfl, HWW.out _ (HS.out.below HB11.out).w⟩
          | ok p2 =>
            have HBP := Lib.hid hbp
            clear hbp hne
            go_upto_region 34 with (go_at_call 11; go_loud (have hq := HS.out.flush HTB.out HNE.out (by have := HSZ.out; have := HPL.out; omega) HBP.out; (with_reducible refine hq.mono ?_); clear hq; rintro e w11r ⟨rfl, s11', D11, B11, hs11⟩; have HSE := Lib.hid hs11.ends; clear hs11))
            clear HS
            obtain ⟨o, ho⟩ : ∃ o, sa.objs = o := ⟨_, rfl⟩
            obtain ⟨nx, hnx⟩ : ∃ nx, sa.next = nx := ⟨_, rfl⟩
            rw [ho, hnx] at HSE
            obtain ⟨M, hM⟩ : ∃ M, o.length = M := ⟨_, rfl⟩
            obtain ⟨Z, hZ⟩ : ∃ Z, (St.image o nx).length = Z := ⟨_, rfl⟩
            have HM := Lib.hid hM
            have HZE := Lib.hid hZ
            clear ho hnx hM hZ
            go_wp2_with (first
              | (go_at_call 15; (with_reducible refine (HSE.out.ia w11r (Below.refl _ _)).mono ?_); rintro e wf12 ⟨v12, rfl, hr12, hb12⟩; obtain ⟨a12, c12, hv12, _, _, _, hsh12⟩ := hr12.form; rw [List.length_map, HM.out] at hv12; subst hv12; have HR12 := Lib.hid hr12; have HSH12 := Lib.hid hsh12; have HB12 := Lib.hid hb12; clear hr12 hsh12 hb12)
              | (go_at_call 15; go_loud ((with_reducible refine (HSE.out.ib wf12 HB12.out).mono ?_); rintro e wf13 ⟨v13, rfl, hr13, hb13⟩; obtain ⟨a13, c13, hv13, _, _, _, hsh13⟩ := hr13.form; rw [List.length_map, HM.out] at hv13; subst hv13; have HR13 := Lib.hid hr13; have HSH13 := Lib.hid hsh13; have HR12b := Lib.hid (HR12.out.turn (M := fun _ => False) (Turn.of_below hb13) (fun _ _ h => h)); have HB13 := Lib.hid (HB12.out.trans (hb13.mono HB12.out.size)); clear hr13 hsh13 hb13))
              | (go_at_call 14; (with_reducible refine (HSE.out.na wf13 HB13.out).mono ?_); rintro e w' ⟨rfl, rfl⟩)
              | (go_at_call 14; go_loud ((with_reducible refine (HSE.out.nb wf13 HB13.out).mono ?_); rintro e w' ⟨rfl, rfl⟩))
              | (go_at_call 20; (with_reducible refine (HSE.out.za wf13 HB13.out).mono ?_); rintro e wf14 ⟨rfl, hb14⟩; rw [HZE.out]; have HB34 := Lib.hid hb14; have HB14 := Lib.hid (HB13.out.trans (hb14.mono HB13.out.size)); clear hb14)
              | (go_at_call 20; go_loud ((with_reducible refine (HSE.out.zb wf14 HB14.out).mono ?_); rintro e wf15 ⟨rfl, hb15⟩; rw [HZE.out]; have HB35 : Hid (Below wf13.heap.size wf13 wf15) := HB34.out.trans (hb15.mono HB34.out.size); have HB15 := Lib.hid (HB14.out.trans (hb15.mono HB14.out.size)); clear hb15)))
            go_loopg [21, 22, 23, 24, 25] M (fun gk2 s21 s22 s23 s24 s25 wr => EnI wf15 M gk2 s21 wr)
            case atStart => exact ⟨0, rfl, by omega, Below.refl _ _⟩
            case round =>
              obtain ⟨j, rfl, hjk, hbj⟩ := hrel
              have HJK := Lib.hid hjk
              have HBJ := Lib.hid hbj
              have HBJ3 := Lib.hid (HB35.out.trans (hbj.mono HB35.out.size))
              have HBJE := Lib.hid (HB15.out.trans (hbj.mono HB15.out.size))
              have j0 : (0 : Int) ≤ (j : Int) := by omega
              by_cases hjm : j < M
              · have j1 : (j : Int) < (M : Int) := by omega
                have j2 : (j : Int) ≤ 67108864 := by have := HSE.out.len; have := HM.out; omega
                obtain ⟨x, hx⟩ : ∃ x, o[j]? = some x := ⟨_, List.getElem?_eq_getElem (by have := HM.out; omega)⟩
                have HXM : Hid (x ∈ o) := List.mem_of_getElem? hx
                have hxj : (o.map fun x => Value.int .i64 x.1)[j]? = some (.int .i64 x.1) := by rw [List.getElem?_map, hx]; rfl
                obtain ⟨g12, rfl, hg12, hc12⟩ := HR12b.out.get hxj
                obtain ⟨g13, rfl, hg13, hc13⟩ := HR13.out.get hxj
                have HCC : Hid (∀ X, Below wf13.heap.size wf13 X → X.cell? ⟨g12, j, none⟩ = some (.int .i64 x.1) ∧ X.cell? ⟨g13, j, none⟩ = some (.int .i64 x.1)) := fun X hX => ⟨(hX.cell (p := ⟨g12, j, none⟩) hg12).trans hc12, (hX.cell (p := ⟨g13, j, none⟩) hg13).trans hc13⟩
                have HLTJ : Hid (j < M) := hjm
                obtain ⟨td, htd⟩ : ∃ td, (dec x.2).1 = td := ⟨_, rfl⟩
                have HTD := Lib.hid htd
                obtain ⟨k0, _⟩ := HCC.out wr HBJ3.out
                clear hjk hbj hx hxj hg12 hc12 hg13 hc13 hjm htd
                go_upto_region 42 with (first
                  | (go_at_call 41; (with_reducible refine (HSE.out.ga wr x HBJE.out HXM.out).mono ?_); rintro e wg1 ⟨vg1, rfl, hv, hb⟩; rw [HTD.out] at hv; obtain ⟨aog1, capg1, hve⟩ := hv.form; replace hve : vg1 = .agg #[.int .i64 td.kind, .int .i64 td.num, .string td.text, .slice aog1 td.kids.length capg1] := hve; subst hve; have HVG1 := Lib.hid hv; have HBG1 := Lib.hid hb; have HBG13 := Lib.hid ((HBJ3.out.trans (hb.mono HBJ3.out.size)).alloc (Nat.le_trans HBJ3.out.size hb.size) (.cells #[.int .i64 td.kind, .int .i64 td.num, .string td.text, .slice aog1 td.kids.length capg1] 33)); have HBG1E := Lib.hid ((HBJE.out.trans (hb.mono HBJE.out.size)).alloc (Nat.le_trans HBJE.out.size hb.size) (.cells #[.int .i64 td.kind, .int .i64 td.num, .string td.text, .slice aog1 td.kids.length capg1] 33)); obtain ⟨k2, _⟩ := HCC.out _ HBG13.out; clear hv hb)
                  | (go_at_call 41; go_loud ((with_reducible refine (HSE.out.gb _ x HBG1E.out HXM.out).mono ?_); rintro e wg2 ⟨vg2, rfl, hv, hb⟩; rw [HTD.out] at hv; obtain ⟨aog2, capg2, hve⟩ := hv.form; replace hve : vg2 = .agg #[.int .i64 td.kind, .int .i64 td.num, .string td.text, .slice aog2 td.kids.length capg2] := hve; subst hve; have HVG2 := Lib.hid hv; have HBG2 := Lib.hid hb; clear hv hb)))
                have hx1 := heap_alloc_new wg1 (.cells #[.int .i64 td.kind, .int .i64 td.num, .string td.text, .slice aog1 td.kids.length capg1] 33)
                have hb17 := (Below.refl wg2.heap.size wg2).alloc (Nat.le_refl _) (.cells #[.int .i64 td.kind, .int .i64 td.num, .string td.text, .slice aog2 td.kids.length capg2] 33)
                have hx1b := (hb17.block _ (lt_of_block ((HBG2.out.block _ (lt_of_block hx1)).trans hx1))).trans ((HBG2.out.block _ (lt_of_block hx1)).trans hx1)
                have hx2 := heap_alloc_new wg2 (.cells #[.int .i64 td.kind, .int .i64 td.num, .string td.text, .slice aog2 td.kids.length capg2] 33)
                have hba := (Below.refl wg1.heap.size wg1).alloc (Nat.le_refl _) (.cells #[.int .i64 td.kind, .int .i64 td.num, .string td.text, .slice aog1 td.kids.length capg1] 33)
                have hv1 := ((HVG1.out.below hba (fun b hb => hb.2)).below HBG2.out (fun b hb => by have := hba.size; have := hb.2; omega)).below hb17 (fun b hb => by have := hba.size; have := HBG2.out.size; have := hb.2; omega)
                have hv2 := HVG2.out.below hb17 (fun b hb => hb.2)
                have hbj := (HBG13.out.trans (HBG2.out.mono HBG13.out.size)).trans (hb17.mono (Nat.le_trans HBG13.out.size HBG2.out.size))
                have hbr := ((HBJ.out.trans (HBG1.out.mono HBJ.out.size)).trans (hba.mono (Nat.le_trans HBJ.out.size HBG1.out.size)))
                have hbr2 := (hbr.trans (HBG2.out.mono hbr.size)).trans (hb17.mono (Nat.le_trans hbr.size HBG2.out.size))
                have hs1 : wg1.heap.size < (wg2.alloc (.cells #[.int .i64 td.kind, .int .i64 td.num, .string td.text, .slice aog2 td.kids.length capg2] 33)).heap.size := lt_of_block hx1b
                have hs2 : wg2.heap.size < (wg2.alloc (.cells #[.int .i64 td.kind, .int .i64 td.num, .string td.text, .slice aog2 td.kids.length capg2] 33)).heap.size := lt_of_block hx2
                generalize wg1.heap.size = q1 at hx1b hs1 hv1 ⊢
                generalize wg2.heap.size = q2 at hx2 hs2 hv2 ⊢
                generalize wg2.alloc (.cells #[.int .i64 td.kind, .int .i64 td.num, .string td.text, .slice aog2 td.kids.length capg2] 33) = w18 at hx1b hx2 hv1 hv2 hbj hbr2 hs1 hs2 ⊢
                have HX1 := Lib.hid hx1b
                have HX2 := Lib.hid hx2
                have HV1 : Hid (ValIs w18 (fun b => b < w18.heap.size) td (.agg #[.int .i64 td.kind, .int .i64 td.num, .string td.text, .slice aog1 td.kids.length capg1])) := hv1.mono (fun b hb => by omega)
                have HV2 : Hid (ValIs w18 (fun b => b < w18.heap.size) td (.agg #[.int .i64 td.kind, .int .i64 td.num, .string td.text, .slice aog2 td.kids.length capg2])) := hv2.mono (fun b hb => by omega)
                have HBJ18 := Lib.hid hbj
                have HBR18 := Lib.hid hbr2
                have HSS : Hid (∀ X, Below w18.heap.size w18 X → X.cell? ⟨q1, 0, none⟩ = some (.int .i64 td.kind) ∧ X.cell? ⟨q1, 1, none⟩ = some (.int .i64 td.num) ∧ X.cell? ⟨q1, 2, none⟩ = some (.string td.text) ∧ X.cell? ⟨q1, 3, none⟩ = some (.slice aog1 td.kids.length capg1) ∧ X.cell? ⟨q2, 0, none⟩ = some (.int .i64 td.kind) ∧ X.cell? ⟨q2, 1, none⟩ = some (.int .i64 td.num) ∧ X.cell? ⟨q2, 2, none⟩ = some (.string td.text) ∧ X.cell? ⟨q2, 3, none⟩ = some (.slice aog2 td.kids.length capg2) ∧ X.cell? ⟨g12, j, none⟩ = some (.int .i64 x.1) ∧ X.cell? ⟨g13, j, none⟩ = some (.int .i64 x.1)) := fun X hX => by
                  obtain ⟨a0, a1, a2, a3, _⟩ := hdr4_cells ((hX.block _ (lt_of_block HX1.out)).trans HX1.out)
                  obtain ⟨b0, b1, b2, b3, _⟩ := hdr4_cells ((hX.block _ (lt_of_block HX2.out)).trans HX2.out)
                  obtain ⟨c0, c1⟩ := HCC.out X (HBJ18.out.trans (hX.mono HBJ18.out.size))
                  exact ⟨a0, a1, a2, a3, b0, b1, b2, b3, c0, c1⟩
                clear hx1 hb17 hx1b hx2 hba hv1 hv2 hbj hbr hbr2 hs1 hs2 k0 k2
                go_region_held3 (fun X => X.cell? ⟨q1, 0, none⟩ = some (.int .i64 td.kind) ∧ X.cell? ⟨q1, 1, none⟩ = some (.int .i64 td.num) ∧ X.cell? ⟨q1, 2, none⟩ = some (.string td.text) ∧ X.cell? ⟨q1, 3, none⟩ = some (.slice aog1 td.kids.length capg1) ∧ X.cell? ⟨q2, 0, none⟩ = some (.int .i64 td.kind) ∧ X.cell? ⟨q2, 1, none⟩ = some (.int .i64 td.num) ∧ X.cell? ⟨q2, 2, none⟩ = some (.string td.text) ∧ X.cell? ⟨q2, 3, none⟩ = some (.slice aog2 td.kids.length capg2) ∧ X.cell? ⟨g12, j, none⟩ = some (.int .i64 x.1) ∧ X.cell? ⟨g13, j, none⟩ = some (.int .i64 x.1))
                  (first | exact HSS.out _ (Below.refl _ _).drew | exact HSS.out _ HBY.out)
                  (first
                    | (go_at_call 42; go_loud (have hq := same_walk td.sz td td _ _ w18.drew (fun b => b < w18.heap.size) (Nat.le_refl _) (HV1.out.below (Below.refl _ _).drew (fun b hb => hb)) (HV2.out.below (Below.refl _ _).drew (fun b hb => hb)) (fun b hb => hb); rw [VT.same_refl] at hq; (with_reducible refine hq.mono ?_); clear hq; rintro e wY ⟨rfl, hb⟩; have HBY : Hid (Below w18.heap.size w18 wY) := (Below.refl w18.heap.size w18).drew.trans hb; clear hb)))
                (try dsimp only [Exit.then])
                apply_assumption
                go_wp2
                go_roundg (gk - 1)
                case measure => have := HJK.out; have := HLTJ.out; omega
                case rel => exact ⟨j + 1, by go_num, by have := HJK.out; have := HLTJ.out; omega, HBR18.out.trans (HBY.out.mono HBR18.out.size)⟩
              · obtain rfl : M = j := by omega
                have j1 : ¬ (M : Int) < (M : Int) := by omega
                clear hjk hbj hjm
                go_wp2
                go_ret
                exact ⟨rfl, HWW.out _ (HSE.out.w.trans (HBJE.out.mono HSE.out.n))⟩
end Go.Proofs.YtcpgbekcbaelpaaGreatDoor
