/- The law KindBig. -/
import Derived.Test.YthchkekegkhanaaDoorKdUnif
namespace Go.Proofs.YthchkekegkhanaaDoor
open Go.RowKit Go.Maps
set_option linter.unusedVariables false

def nTwo : ByteArray := ⟨#[116, 119, 111]⟩
def nT : ByteArray := ⟨#[116]⟩
def two (y : Ty) : Ty := .con nTwo [y, y]
/-- A tree that is full down to d. -/
def dbl : Nat → Ty → Ty
  | 0, y => y
  | d + 1, y => two (dbl d y)
theorem two_sub (s : Int → Ty) (y : Ty) : (two y).sub s = two (y.sub s) := by unfold two; rw [Ty.sub, Ty.subs, Ty.subs, Ty.subs]
theorem dbl_sub (s : Int → Ty) (y : Ty) : ∀ d, (dbl d y).sub s = dbl d (y.sub s)
  | 0 => rfl
  | d + 1 => by rw [dbl, two_sub, dbl_sub s y d, dbl]
theorem dbl_two (y : Ty) : ∀ d, dbl d (two y) = dbl (d + 1) y
  | 0 => rfl
  | d + 1 => by rw [dbl, dbl_two y d]; rfl
theorem two_sz (y : Ty) : (two y).sz = 1 + (y.sz + y.sz) := by unfold two; rw [Ty.sz, Ty.szs, Ty.szs, Ty.szs]; omega
theorem dbl_sz (n : Int) : ∀ d, (dbl d (.var n)).sz + 1 = 2 ^ (d + 1)
  | 0 => by rw [dbl, Ty.sz]
  | d + 1 => by
    have := dbl_sz n d
    rw [dbl, two_sz, Nat.pow_succ]
    omega
theorem dbl_small (n : Int) (d : Nat) : (dbl d (.var n)).sz ≤ 1000 ↔ d ≤ 8 := by
  have h := dbl_sz n d
  constructor
  · intro h1
    rcases Nat.lt_or_ge 8 d with h2 | h2
    · have : 2 ^ 10 ≤ 2 ^ (d + 1) := Nat.pow_le_pow_right (by omega) (by omega)
      have e : (2 : Nat) ^ 10 = 1024 := by decide
      omega
    · exact h2
  · intro h1
    have : 2 ^ (d + 1) ≤ 2 ^ 9 := Nat.pow_le_pow_right (by omega) (by omega)
    have e : (2 : Nat) ^ 9 = 512 := by decide
    omega
theorem uni_two {s : Int → Ty} {a b : Int} (ha : s a = .var a) (hb : s b = .var b) (hab : a ≠ b) : uni s (.var a) (two (.var b)) = (0, ext s a (two (.var b))) := by
  have h1 : ¬ b = a := fun e => hab e.symm
  simp [uni, pairF, pairT, bindF, two, Ty.sub, Ty.subs, Ty.sz, Ty.szs, Ty.has, Ty.hass, ha, hb, h1]
theorem szs_rep (t : Ty) : ∀ n, Ty.szs (List.replicate n t) = n * t.sz
  | 0 => by simp [Ty.szs]
  | n + 1 => by rw [List.replicate_succ, Ty.szs, szs_rep t n, Nat.succ_mul]; omega
theorem subs_rep (s : Int → Ty) (t : Ty) (ht : t.sub s = t) : ∀ n, Ty.subs s (List.replicate n t) = List.replicate n t
  | 0 => by simp [Ty.subs]
  | n + 1 => by rw [List.replicate_succ, Ty.subs, subs_rep s t ht n, ht]
theorem hass_rep (m : Int) (t : Ty) (ht : t.has m = false) : ∀ n, Ty.hass m (List.replicate n t) = false
  | 0 => by simp [Ty.hass]
  | n + 1 => by rw [List.replicate_succ, Ty.hass, hass_rep m t ht n, ht]; rfl
def manyT (n : Nat) : Ty := .con nT (List.replicate n (.con nInt []))
theorem manyT_sz (n : Nat) : (manyT n).sz = 1 + n := by
  unfold manyT
  rw [Ty.sz, szs_rep]
  simp [Ty.sz, Ty.szs]
theorem uni_many (n : Nat) : (uni Ty.var (.var 1) (manyT n)).1 = if n + 1 ≤ 1000 then 0 else 4 := by
  have e1 : (manyT n).sub Ty.var = manyT n := Ty.sub_var _
  have e2 : (manyT n).has 1 = false := by unfold manyT; rw [Ty.has]; exact hass_rep 1 _ (by simp [Ty.has, Ty.hass]) n
  have e3 : (Ty.var 1).sub Ty.var = .var 1 := by rw [Ty.sub]
  show (pairF 10001 (Ty.var, 10000) (.var 1) (manyT n)).1 = _
  rw [pairF, e1, e3]
  have e4 : manyT n = .con nT (List.replicate n (.con nInt [])) := rfl
  rw [e4, pairT, ← e4]
  unfold bindF
  rw [manyT_sz, e2]
  by_cases h : n + 1 ≤ 1000
  · rw [if_pos h, if_neg (by omega)]; rfl
  · rw [if_neg h, if_pos (by omega)]
/-- Behind i rows. -/
structure Chain (s : Int → Ty) (i : Nat) : Prop where
  one : s 1 = dbl i (.var ((i : Int) + 1))
  free : ∀ k : Int, (i : Int) < k → s k = .var k
theorem Chain.zero : Chain Ty.var 0 := ⟨rfl, fun k _ => rfl⟩
theorem Chain.step {s : Int → Ty} {i : Nat} (h : Chain s i) : Chain (ext s ((i : Int) + 1) (two (.var ((i : Int) + 2)))) (i + 1) := by
  constructor
  · unfold ext
    rw [h.one, dbl_sub, Ty.sub]
    unfold Ty.one
    rw [if_pos rfl, dbl_two]
    have e : (i : Int) + 2 = ((i + 1 : Nat) : Int) + 1 := by omega
    rw [e]
  · intro k hk
    unfold ext
    rw [h.free k (by omega), Ty.sub]
    unfold Ty.one
    rw [if_neg (by omega)]
theorem free_step {s : Int → Ty} {j : Int} (h : ∀ k : Int, j ≤ k → s k = .var k) : ∀ k : Int, j + 1 ≤ k → ext s j (two (.var (j + 1))) k = .var k := fun k hk => by
  unfold ext
  rw [h k (by omega), Ty.sub]
  unfold Ty.one
  rw [if_neg (by omega)]
theorem wrap_in (n : Int) (h1 : -9223372036854775808 ≤ n) (h2 : n ≤ 9223372036854775807) : wrap64 n = n := by unfold wrap64; omega
theorem big_rem (a c m : Int) (h1 : 0 < m) (h2 : m ≤ 1000) (h3 : 0 ≤ c ∧ c ≤ 2000) : ∃ n : Nat, wrap64 (c + wrap64 ((IntKind.u64.wrap a).tmod m)) = c + (n : Int) ∧ (n : Int) < m := by
  have hw : 0 ≤ IntKind.u64.wrap a := by show 0 ≤ a % 18446744073709551616; omega
  have e : (IntKind.u64.wrap a).tmod m = IntKind.u64.wrap a % m := Int.tmod_eq_emod_of_nonneg hw
  have b0 := Int.emod_nonneg (IntKind.u64.wrap a) (show m ≠ 0 by omega)
  have b1 := Int.emod_lt_of_pos (IntKind.u64.wrap a) h1
  rw [e]
  generalize IntKind.u64.wrap a % m = x at *
  refine ⟨x.toNat, ?_, by omega⟩
  rw [wrap_in x (by omega) (by omega), wrap_in _ (by omega) (by omega)]
  omega
theorem big_size {w wr w7 : World} (h : Below w.heap.size w wr) (h7 : Below wr.heap.size wr w7) (o : Obj) : w.heap.size ≤ (w7.alloc o).heap.size := by
  have := h.size
  have := h7.size
  simp
  omega
theorem big_len {i n0 : Nat} {t : Ty} (h : i < 994 + n0) (h0 : (n0 : Int) < 10) : (List.replicate i t).length ≤ 1000000 := by rw [List.length_replicate]; omega
def BigLoop1 (W : World) (N : Nat) (gk : Nat) (s5 s6 : Value) (wr : World) : Prop :=
  ∃ i : Nat, s6 = .int .i64 ((i : Int) + 1) ∧ i + gk = N ∧ TRow 25 wr W.heap.size s5 (List.replicate i (.con nInt [])) ∧ Below W.heap.size W wr
theorem two_vars {w : World} {P : Nat → Prop} {g : Nat} {n : Int} {T : TypeId} (hz : Zat w g #[.int .i64 0, .int .i64 n, .string ⟨#[]⟩, .slice none 0 0, .int .i64 0, .int .i64 n, .string ⟨#[]⟩, .slice none 0 0] T) (hP : P g) (hn : (Lit.int .i64 n).wf = true) : TysAt w P [.var n, .var n] (some ⟨g, 0, none⟩) 0 := by
  have c : ∀ j, j < 8 → w.cell? ⟨g, j, none⟩ = (#[Value.int .i64 0, .int .i64 n, .string ⟨#[]⟩, .slice none 0 0, .int .i64 0, .int .i64 n, .string ⟨#[]⟩, .slice none 0 0])[j]? := fun j hj => by
    unfold Zat at hz
    simp [World.cell?, hz]
  unfold TysAt
  rw [Ty.vts, Ty.vts, Ty.vts]
  unfold KidsAt KidsAt KidsAt
  exact ⟨⟨g, 0, _, _, _, _, rfl, hP, c 0 (by omega), c 1 (by omega), c 2 (by omega), c 3 (by omega), TyIs.mk_var hn⟩, ⟨g, 0, _, _, _, _, rfl, hP, c 4 (by omega), c 5 (by omega), c 6 (by omega), c 7 (by omega), TyIs.mk_var hn⟩, trivial⟩
theorem con_two {W2 W : World} {g : Nat} {n : Int} (hW : Below W2.heap.size W2 W) (hg : W2.heap.size ≤ g) (hz : Zat W g #[.int .i64 0, .int .i64 n, .string ⟨#[]⟩, .slice none 0 0, .int .i64 0, .int .i64 n, .string ⟨#[]⟩, .slice none 0 0] 25) (hn : (Lit.int .i64 n).wf = true) :
    Calls Tryd.prog 23 #[.string ⟨#[116, 119, 111]⟩, .slice (some ⟨g, 0, none⟩) 2 2] W fun e w' => ∃ g' cc, e = .returned (.agg #[.int .i64 1, .int .i64 0, .string ⟨#[116, 119, 111]⟩, .slice (some ⟨g', 0, none⟩) 2 cc]) ∧ TyIs w' (fun b => W2.heap.size ≤ b ∧ b < w'.heap.size) (two (.var n)) (.agg #[.int .i64 1, .int .i64 0, .string ⟨#[116, 119, 111]⟩, .slice (some ⟨g', 0, none⟩) 2 cc]) ∧ Below W.heap.size W w' := by
  refine (con_any nTwo [.var n, .var n] (some ⟨g, 0, none⟩) 2 W (fun b => b = g) (by decide) (by simp) (by simp) (two_vars hz rfl hn) (fun b hb => by rw [hb]; exact lt_of_block hz)).mono ?_
  rintro e w' ⟨g', cc, rfl, ht, hb⟩
  refine ⟨g', cc, rfl, ht.mono fun b hb' => ⟨?_, hb'.2⟩, hb⟩
  have := hW.size
  rcases hb'.1 with e | e
  · rw [e]; exact hg
  · omega
theorem two_ref {w wz W : World} {p bm n q m g : Nat} {s s' : Int → Ty} {F : List Nat} {k : Int} {L : List (Nat × Array Value × TypeId)} {T : List (Ty × Value)} (h : TwoAt w wz p bm n 0 s q F m 0 s' L T) (hW : Below wz.heap.size wz W) (hg : wz.heap.size ≤ g)
    (hz : Zat W g #[.int .i64 0, .int .i64 k, .string ⟨#[]⟩, .slice none 0 0, .int .i64 0, .int .i64 k, .string ⟨#[]⟩, .slice none 0 0] 40) (hk : (Lit.int .i64 k).wf = true) :
    TyIs W (Fr W p bm F) (two (.var k)) (.agg #[.int .i64 1, .int .i64 0, .string ⟨#[116, 119, 111]⟩, .slice (some ⟨g, 0, none⟩) 2 2]) := by
  have hl := h.sv.lt
  have hlt : g < W.heap.size := lt_of_block hz
  exact TyIs.mk_con (c := nTwo) (l := [.var k, .var k]) (by simp) (by unfold maxLen; omega) (by decide) (fun e => by cases e) (two_vars hz ⟨hlt, by omega, by omega, fun hm => by have := h.rf.lt _ hm; omega⟩ hk)
theorem ref_two {w wz W : World} {p bm n q m g : Nat} {s s' : Int → Ty} {F : List Nat} {k : Int} {L : List (Nat × Array Value × TypeId)} {T : List (Ty × Value)} (h : TwoAt w wz p bm n 0 s q F m 0 s' L T) (hW : Below wz.heap.size wz W) (hg : wz.heap.size ≤ g)
    (hz : Zat W g #[.int .i64 0, .int .i64 k, .string ⟨#[]⟩, .slice none 0 0, .int .i64 0, .int .i64 k, .string ⟨#[]⟩, .slice none 0 0] 40) (hk : (Lit.int .i64 k).wf = true) :
    Calls Tryd.prog 25 #[.string ⟨#[116, 119, 111]⟩, .slice (some ⟨g, 0, none⟩) 2 2] W fun e w' => e = .returned (.agg #[.int .i64 1, .int .i64 0, .string ⟨#[116, 119, 111]⟩, .slice (some ⟨g, 0, none⟩) 2 2]) ∧ TyIs w' (Fr w' p bm F) (two (.var k)) (.agg #[.int .i64 1, .int .i64 0, .string ⟨#[116, 119, 111]⟩, .slice (some ⟨g, 0, none⟩) 2 2]) ∧ Below W.heap.size W w' :=
  (refCon_any _ _ _ _ W).mono fun e w' ⟨he, hb⟩ => ⟨he, two_ref h (bt hW hb) hg (z_below hb hz) hk, hb⟩
def BigLoop2 (w : World) (p bm q M : Nat) (gk : Nat) (s10 : Value) (wr : World) : Prop :=
  ∃ (i m : Nat) (F : List Nat) (s : Int → Ty), s10 = .int .i64 ((i : Int) + 1) ∧ i + gk = M ∧ TwoAt w wr p bm (10000 * i) 0 s q F m 0 s [] [] ∧ m ≤ 10000 * i ∧ Chain s i
def BigLoop3 (w : World) (p bm q M : Nat) (gk : Nat) (s17 : Value) (wr : World) : Prop :=
  ∃ (i m : Nat) (F : List Nat) (s : Int → Ty), s17 = .int .i64 ((i : Int) + 101) ∧ i + gk = M ∧ TwoAt w wr p bm (1000000 + 10000 * i) 0 s q F m 0 s [] [] ∧ m ≤ 1000000 + 10000 * i ∧ ∀ k : Int, (i : Int) + 101 ≤ k → s k = .var k
set_option maxRecDepth 100000 in
set_option maxHeartbeats 3200000 in
theorem kindBig_walk (a0 a1 : Int) (w : World) : Calls Tryd.prog 5 #[.int .i64 a0, .int .i64 a1] w fun e w' => e = .returned (.bool true) ∧ Below w.heap.size w w' := by
  obtain ⟨n0, hn0, hb0⟩ := big_rem a0 995 10 (by omega) (by omega) (by omega)
  obtain ⟨n1, hn1, hb1⟩ := big_rem a1 1 30 (by omega) (by omega) (by omega)
  go_enter Tryd.func5, Tryd.ntmps5
  go_wp2
  rw [hn0, hn1]
  clear hn0 hn1
  have HL : Hid (BigLoop1 w (994 + n0) (994 + n0) (.slice none 0 0) (.int .i64 1) w) := ⟨0, rfl, by omega, TRow.nil _ _, Below.refl _ _⟩
  go_loopg [5, 6] (994 + n0) (fun gk s5 s6 wr => BigLoop1 w (994 + n0) gk s5 s6 wr)
  case atStart => exact HL.out
  case round =>
    clear HL
    obtain ⟨i, rfl, hik, hr, hb⟩ := hrel
    obtain ⟨ar, cr, rfl⟩ := hr.form
    rw [List.length_replicate] at hr ⊢
    have HRW := Lib.hid hr
    have HBW := Lib.hid hb
    have hbs := hb.size
    clear hr hb
    have g0 : (0 : Int) ≤ (i : Int) := by omega
    by_cases hlt : i < 994 + n0
    · have g1 : (i : Int) + 1 < 995 + (n0 : Int) := by omega
      go_wp2_with (first
        | (go_at_call 23; (with_reducible refine (con_nil _ _).mono ?_); rintro e w7 ⟨rfl, hb7⟩; have B7 := Lib.hid hb7; clear hb7)
        | (at_builtin; refine wpList_appt rfl _ _ 23 25 rfl Tryd.underlying23 infoK (base := w.heap.size) rfl (TRow.below (HRW.out.below B7.out) ((Below.refl _ _).alloc (Nat.le_refl _) _)) (t := .con nInt []) (p := (none, 0)) (ad := ⟨w7.heap.size, 0, none⟩) (c := 1) rfl (cell_four_new _ _ _ _ _ _) (TyIs.mk_con (c := nInt) (l := []) (Nat.le_refl _) (Nat.zero_le _) (by decide) (fun _ => rfl) TysAt.nil) (big_size HBW.out B7.out _) (big_len hlt hb0) ?_; intro g9' cap9 w9 hr9 ht9))
      go_roundg (gk - 1)
      case measure => omega
      case rel => exact ⟨i + 1, by go_num, by omega, by rw [List.length_replicate] at hr9; rw [List.replicate_succ']; exact hr9, shown_next HBW.out HRW.out (oa B7.out _) ht9⟩
    · obtain rfl : i = 994 + n0 := by omega
      obtain ⟨ao4, cap4, hv4, k1, k2, k3, k4⟩ := HRW.out.kids
      rw [List.length_replicate] at hv4 k1
      injection hv4 with e1 e2 e3
      subst e1 e3
      have hlen : (List.replicate (994 + n0) (Ty.con nInt [])).length = 994 + n0 := List.length_replicate
      have HC := con_any nT (List.replicate (994 + n0) (.con nInt [])) ar cr
      rw [hlen] at HC
      have HCN := Lib.hid (fun (W : World) (hW : Below wr.heap.size wr W) => HC W (fun b => b < wr.heap.size) (by decide) (by intro e; have h9 := congrArg List.length e; rw [List.length_replicate, List.length_nil] at h9; omega) (by omega) ((k4.below hW (fun b hb => hb.2)).mono fun b hb => hb.2) (fun b hb => Nat.lt_of_lt_of_le hb hW.size))
      have HUE : Hid ((uni Ty.var (.var 1) (manyT (994 + n0))).1 = if 994 + n0 + 1 ≤ 1000 then 0 else 4) := uni_many _
      clear k1 k2 k3 k4 hlen HC
      unfold ConEnd nT at HCN
      have HBE : Hid (Below w.heap.size w wr) := HBW.out
      have HUN : Hid (∀ (W1 W : World) (v : Value), SolvAt (fun _ => True) W1 (wr.heap.size + 1) wr.heap.size 0 0 Ty.var → Below wr.heap.size wr W1 → Below W1.heap.size W1 W → TyIs W (fun b => (b < wr.heap.size ∨ W1.heap.size ≤ b) ∧ b < W.heap.size) (manyT (994 + n0)) v →
          Calls Tryd.prog 13 #[.pointer (some ⟨wr.heap.size + 1, 0, none⟩), .agg #[.int .i64 0, .int .i64 1, .string ⟨#[]⟩, .slice none 0 0], v] W fun e w' => e = .returned (.int .i64 (if 994 + n0 + 1 ≤ 1000 then 0 else 4)) ∧ Below w.heap.size w w') := fun W1 W v hs hb1 hbW ht => by
        have hl := hs.lt
        refine (unify_any (hs.chg hbW) (fun _ _ => trivial) (by omega) (.var 1) (manyT (994 + n0)) _ v (TyIs.mk_var (by decide)) (ht.mono fun b hb => ⟨hb.2, by have := hb.1; omega, by have := hb.1; omega, trivial⟩) (by rw [Ty.sz]; omega) (by rw [manyT_sz]; omega)).mono ?_
        rintro e w' ⟨rfl, _, hc⟩
        rw [HUE.out]
        have h0 := HBE.out.size
        exact ⟨rfl, (ot (ot HBE.out hb1) hbW).trans (hc.below (ot (ot HBE.out hb1) hbW).size (fun k hk => by simp at hk; omega))⟩
      clear hbs hlt
      unfold manyT nT at HUN
      have HKI := Lib.hid (fun W => kinds_any W)
      obtain ⟨E, hE, hEq⟩ : ∃ E : Int, E = (if 994 + n0 + 1 ≤ 1000 then 0 else 4) ∧ ((E = 0 ∧ 995 + (n0 : Int) ≤ 1000) ∨ (E = 4 ∧ ¬ 995 + (n0 : Int) ≤ 1000)) := by
        refine ⟨_, rfl, ?_⟩
        by_cases hp : 994 + n0 + 1 ≤ 1000
        · rw [if_pos hp]; exact .inl ⟨rfl, by omega⟩
        · rw [if_neg hp]; exact .inr ⟨rfl, by omega⟩
      rw [← hE] at HUN
      clear hE HUE
      rcases hEq with ⟨rfl, hq⟩ | ⟨rfl, hq⟩
      all_goals
        go_upto_region 11 with (first
          | (go_at_call 15; (with_reducible refine (newAt_any (R := fun _ => True) _).mono ?_); rintro e w1 ⟨rfl, hs1, hb1, hz1⟩; have S1 := Lib.hid hs1; have B1 := Lib.hid hb1; clear hs1 hb1 hz1)
          | (go_at_call 11; (with_reducible refine (var_any _ _).mono ?_); rintro e w2 ⟨rfl, hb2⟩; have B2 := Lib.hid hb2; clear hb2)
          | (go_at_call 23; (with_reducible refine (HCN.out _ (ot B1.out B2.out)).mono ?_); rintro e w3 ⟨g3, c3, rfl, ht3, hb3⟩; rw [List.length_replicate] at ht3; have T3 := Lib.hid ht3; have B3 := Lib.hid (ot B2.out hb3); clear ht3 hb3)
          | (go_at_call 13; (with_reducible refine (HUN.out _ _ _ S1.out B1.out B3.out (T3.out.mono fun b hb => And.intro (hb.1.imp id (Nat.le_trans B2.out.size)) hb.2)).mono ?_); rintro e w4 ⟨rfl, hb4⟩; have B4 := Lib.hid hb4; clear hb4)
          | (go_at_call 12; (with_reducible refine (HKI.out _).mono ?_); rintro e w5 ⟨rfl, hb5⟩; have B5 := Lib.hid (ot B4.out hb5); clear hb5))
        rename World => w5
        go_wp2_with (go_at_call 15; (with_reducible refine (newAt_any (R := fun _ => True) _).mono ?_); rintro e w6 ⟨rfl, hs6, hb6, hz6⟩; have S6 := Lib.hid hs6; have B6 := Lib.hid hb6; have Z6 := Lib.hid hz6; clear hs6 hb6 hz6)
        have hT := twoMade S6.out (ot B5.out B6.out) ⟨by have := B5.out.size; omega, B5.out.size⟩
        generalize w6.alloc (.cells #[.slice none 0 0, .int .i64 0, .int .i64 0] 38) = W1 at hT ⊢
        generalize w6.heap.size = q at hT ⊢
        generalize w5.heap.size + 1 = p at hT ⊢
        generalize w5.heap.size = bm at hT
        have HL : Hid (BigLoop2 w p bm q (1 + n1) (1 + n1) (.int .i64 1) W1) := ⟨0, 0, [q], Ty.var, rfl, by omega, hT, Nat.le_refl _, Chain.zero⟩
        clear hT S6 B6 Z6 B5 HBE HUN HKI hq
        go_loopg [10, 11, 12, 13, 14, 15, 16] (1 + n1) (fun gk s10 s11 s12 s13 s14 s15 s16 wx => BigLoop2 w p bm q (1 + n1) gk s10 wx)
        case atStart => exact HL.out
        case round =>
          clear HL
          obtain ⟨i, m, F, s, rfl, hik, hT, hm, hch⟩ := hrel
          rename World => wx
          have HT := Lib.hid hT
          have HM := Lib.hid hm
          have HCH := Lib.hid hch
          clear hT hm hch
          have g0 : (0 : Int) ≤ (i : Int) := by omega
          by_cases hlt : i < 1 + n1
          · have g1 : (i : Int) + 1 ≤ 1 + (n1 : Int) := by omega
            have g2 : (i : Int) < 100 := by omega
            have hi2 : (i : Int) + 1 + 1 = (i : Int) + 2 := by omega
            have HV2 : Hid ((Lit.int .i64 ((i : Int) + 2)).wf = true) := Go.WalkArith.wf_i64 ⟨by omega, by omega⟩
            have HV1 : Hid ((Lit.int .i64 ((i : Int) + 1)).wf = true) := Go.WalkArith.wf_i64 ⟨by omega, by omega⟩
            go_upto_region 17 with (first
              | (go_at_call 11; (with_reducible refine (var_any _ _).mono ?_); rintro e v1 ⟨rfl, hb⟩; have D1 := Lib.hid hb; have U1 := Lib.hid ((HT.out.below hb).box #[.int .i64 0, .int .i64 ((i : Int) + 2), .string ⟨#[]⟩, .slice none 0 0] 25); clear hb)
              | (go_at_call 24; (with_reducible refine (refVar_any _ _).mono ?_); rintro e v2 ⟨rfl, hb⟩; have D2 := Lib.hid hb; have U2 := Lib.hid ((U1.out.below hb).box #[.int .i64 0, .int .i64 ((i : Int) + 2), .string ⟨#[]⟩, .slice none 0 0] 40); clear hb))
            have hU := U2.out
            generalize v2.alloc (.cells #[.int .i64 0, .int .i64 ((i : Int) + 2), .string ⟨#[]⟩, .slice none 0 0] 40) = W2 at hU ⊢
            generalize v2.heap.size = b12 at hU ⊢
            generalize v1.heap.size = b11 at hU ⊢
            have U3 := Lib.hid hU
            obtain ⟨⟨c0, c1, c2, c3⟩, ⟨d0, d1, d2, d3⟩⟩ := hU.two
            clear hU U1 U2 D1 D2 HT
            have HUQ : Hid (uni s (.var ((i : Int) + 1)) (two (.var ((i : Int) + 2))) = (0, ext s ((i : Int) + 1) (two (.var ((i : Int) + 2))))) := uni_two (HCH.out.free _ (by omega)) (HCH.out.free _ (by omega)) (by omega)
            have HCON : Hid (∀ (W : World) (g : Nat), Below W2.heap.size W2 W → W2.heap.size ≤ g → Zat W g #[.int .i64 0, .int .i64 ((i : Int) + 2), .string ⟨#[]⟩, .slice none 0 0, .int .i64 0, .int .i64 ((i : Int) + 2), .string ⟨#[]⟩, .slice none 0 0] 25 → Calls Tryd.prog 23 #[.string ⟨#[116, 119, 111]⟩, .slice (some ⟨g, 0, none⟩) 2 2] W fun e w' => ∃ g' cc, e = .returned (.agg #[.int .i64 1, .int .i64 0, .string ⟨#[116, 119, 111]⟩, .slice (some ⟨g', 0, none⟩) 2 cc]) ∧ TyIs w' (fun b => W2.heap.size ≤ b ∧ b < w'.heap.size) (two (.var ((i : Int) + 2))) (.agg #[.int .i64 1, .int .i64 0, .string ⟨#[116, 119, 111]⟩, .slice (some ⟨g', 0, none⟩) 2 cc]) ∧ Below W.heap.size W w') := fun W g hW hg hz => con_two hW hg hz HV2.out
            have HUN : Hid (∀ W vb, TwoAt w W p bm (10000 * i) 0 s q F m 0 s [(b12, #[.int .i64 0, .int .i64 ((i : Int) + 2), .string ⟨#[]⟩, .slice none 0 0], 40), (b11, #[.int .i64 0, .int .i64 ((i : Int) + 2), .string ⟨#[]⟩, .slice none 0 0], 25)] [] → TyIs W (Fr W p bm F) (two (.var ((i : Int) + 2))) vb → Calls Tryd.prog 13 #[.pointer (some ⟨p, 0, none⟩), .agg #[.int .i64 0, .int .i64 ((i : Int) + 1), .string ⟨#[]⟩, .slice none 0 0], vb] W fun e w' => e = .returned (.int .i64 0) ∧ TwoAt w w' p bm (10000 * i + 10000) 0 (ext s ((i : Int) + 1) (two (.var ((i : Int) + 2)))) q F m 0 s [(b12, #[.int .i64 0, .int .i64 ((i : Int) + 2), .string ⟨#[]⟩, .slice none 0 0], 40), (b11, #[.int .i64 0, .int .i64 ((i : Int) + 2), .string ⟨#[]⟩, .slice none 0 0], 25)] []) := fun W vb h hv => by
              have := twoUnify h (by omega) (a := .var ((i : Int) + 1)) (va := .agg #[.int .i64 0, .int .i64 ((i : Int) + 1), .string ⟨#[]⟩, .slice none 0 0]) (TyIs.mk_var HV1.out) hv (by rw [Ty.sz]; omega) (by rw [two_sz, Ty.sz]; omega)
              rw [HUQ.out] at this
              exact this
            have HKP := Lib.hid (fun (W : World) (hW : Below W2.heap.size W2 W) => (U3.out.below hW).two.1)
            go_upto_region 17 with fail
            go_cut [13] (fun s13 wz => s13 = .int .i64 0 ∧ TwoAt w wz p bm (10000 * i + 10000) 0 (ext s ((i : Int) + 1) (two (.var ((i : Int) + 2)))) q F m 0 s [(b12, #[.int .i64 0, .int .i64 ((i : Int) + 2), .string ⟨#[]⟩, .slice none 0 0], 40), (b11, #[.int .i64 0, .int .i64 ((i : Int) + 2), .string ⟨#[]⟩, .slice none 0 0], 25)] [])
            case first =>
              go_region_held3 (fun w' => w'.cell? ⟨b11, 0, none⟩ = some (.int .i64 0) ∧ w'.cell? ⟨b11, 1, none⟩ = some (.int .i64 ((i : Int) + 2)) ∧ w'.cell? ⟨b11, 2, none⟩ = some (.string ⟨#[]⟩) ∧ w'.cell? ⟨b11, 3, none⟩ = some (.slice none 0 0))
                (first | (with_reducible exact U6.out.two.1) | (with_reducible exact HKP.out _ D4.out) | (with_reducible refine HKP.out _ ?_; (with_reducible repeat (first | exact D3.out | exact Below.refl _ _ | apply ba | apply bd))) | go_keep)
                (first
                  | (go_at_call 11; (with_reducible refine (var_any _ _).mono ?_); rintro e v3 ⟨rfl, hb⟩; have D3 : Hid (Below W2.heap.size W2 v3) := (bt (by (with_reducible repeat (first | exact D3.out | exact Below.refl _ _ | apply ba | apply bd))) hb : Below W2.heap.size W2 v3); have C3 := Lib.hid hb; clear hb)
                  | (go_at_call 23; (with_reducible refine (HCON.out _ _ ?b ?g ?z).mono ?_); (case b => (with_reducible repeat (first | exact D3.out | exact Below.refl _ _ | apply ba | apply bd))); (case g => (first | exact Nat.le_refl _ | exact D3.out.size | (simp; done))); (case z => (repeat (first | ((with_reducible refine z_new ?_); · (first | (with_reducible rfl) | (simp; done))) | (with_reducible refine z_old ?_) | (with_reducible refine z_below C3.out ?_) | (with_reducible refine z_drew ?_)))); rintro e v4 ⟨g4, c4, rfl, ht, hb⟩; have D4 : Hid (Below W2.heap.size W2 v4) := (bt (by (with_reducible repeat (first | exact D3.out | exact Below.refl _ _ | apply ba | apply bd))) hb : Below W2.heap.size W2 v4); have T4 := Lib.hid (U3.out.new D4.out ht); have U4 := Lib.hid (U3.out.below D4.out); clear ht hb)
                  | (go_at_call 13; (with_reducible refine (HUN.out _ _ U4.out T4.out).mono ?_); rintro e v5 ⟨rfl, hu⟩; have U6 := Lib.hid hu; clear hu))
              all_goals go_wp2
              all_goals go_meet
              all_goals exact ⟨rfl, U6.out⟩
            case rest =>
              obtain ⟨rfl, hU⟩ := hcut
              rename World => wz
              have UZ := Lib.hid hU
              obtain ⟨_, ⟨d0, d1, d2, d3⟩⟩ := hU.two
              clear hU HCON HUN HKP U3 c0 c1 c2 c3
              have HCS : Hid (Chain (ext s ((i : Int) + 1) (two (.var ((i : Int) + 2)))) (i + 1)) := HCH.out.step
              generalize ext s ((i : Int) + 1) (two (.var ((i : Int) + 2))) = s1 at UZ HUQ HCS ⊢
              have hm9 : m ≤ 1000000 := by have := HM.out; omega
              have HRN : Hid (∀ W vb, TwoAt w W p bm (10000 * i + 10000) 0 s1 q F m 0 s [(b12, #[.int .i64 0, .int .i64 ((i : Int) + 2), .string ⟨#[]⟩, .slice none 0 0], 40), (b11, #[.int .i64 0, .int .i64 ((i : Int) + 2), .string ⟨#[]⟩, .slice none 0 0], 25)] [] → TyIs W (Fr W p bm F) (two (.var ((i : Int) + 2))) vb → Calls Tryd.prog 18 #[.pointer (some ⟨q, 0, none⟩), .agg #[.int .i64 0, .int .i64 ((i : Int) + 1), .string ⟨#[]⟩, .slice none 0 0], vb] W fun e w' => e = .returned (.int .i64 0) ∧ ∃ F', TwoAt w w' p bm (10000 * i + 10000) 0 s1 q F' (m + 10000) 0 s1 [(b12, #[.int .i64 0, .int .i64 ((i : Int) + 2), .string ⟨#[]⟩, .slice none 0 0], 40), (b11, #[.int .i64 0, .int .i64 ((i : Int) + 2), .string ⟨#[]⟩, .slice none 0 0], 25)] []) := fun W vb h hv => by
                have := twoRef h (by omega) (a := .var ((i : Int) + 1)) (va := .agg #[.int .i64 0, .int .i64 ((i : Int) + 1), .string ⟨#[]⟩, .slice none 0 0]) (TyIs.mk_var HV1.out) hv
                rw [HUQ.out] at this
                exact this
              have HKP := Lib.hid (fun (W : World) (hW : Below wz.heap.size wz W) => (UZ.out.below hW).two.2)
              have HRC : Hid (∀ (W : World) (g : Nat), Below wz.heap.size wz W → wz.heap.size ≤ g → Zat W g #[.int .i64 0, .int .i64 ((i : Int) + 2), .string ⟨#[]⟩, .slice none 0 0, .int .i64 0, .int .i64 ((i : Int) + 2), .string ⟨#[]⟩, .slice none 0 0] 40 → Calls Tryd.prog 25 #[.string ⟨#[116, 119, 111]⟩, .slice (some ⟨g, 0, none⟩) 2 2] W fun e w' => e = .returned (.agg #[.int .i64 1, .int .i64 0, .string ⟨#[116, 119, 111]⟩, .slice (some ⟨g, 0, none⟩) 2 2]) ∧ TyIs w' (Fr w' p bm F) (two (.var ((i : Int) + 2))) (.agg #[.int .i64 1, .int .i64 0, .string ⟨#[116, 119, 111]⟩, .slice (some ⟨g, 0, none⟩) 2 2]) ∧ Below W.heap.size W w') := fun W g hW hg hz =>
                (refCon_any _ _ _ _ W).mono fun e w' ⟨he, hb⟩ => ⟨he, two_ref UZ.out (bt hW hb) hg (z_below hb hz) HV2.out, hb⟩
              go_upto_region 18 with fail
              go_cut [14] (fun s14 wy => s14 = .int .i64 0 ∧ ∃ F', TwoAt w wy p bm (10000 * i + 10000) 0 s1 q F' (m + 10000) 0 s1 [(b12, #[.int .i64 0, .int .i64 ((i : Int) + 2), .string ⟨#[]⟩, .slice none 0 0], 40), (b11, #[.int .i64 0, .int .i64 ((i : Int) + 2), .string ⟨#[]⟩, .slice none 0 0], 25)] [])
              case first =>
                go_region_held3 (fun w' => w'.cell? ⟨b12, 0, none⟩ = some (.int .i64 0) ∧ w'.cell? ⟨b12, 1, none⟩ = some (.int .i64 ((i : Int) + 2)) ∧ w'.cell? ⟨b12, 2, none⟩ = some (.string ⟨#[]⟩) ∧ w'.cell? ⟨b12, 3, none⟩ = some (.slice none 0 0))
                  (first | (with_reducible exact U6.out.two.2) | (with_reducible exact HKP.out _ D4.out) | (with_reducible refine HKP.out _ ?_; (with_reducible repeat (first | exact D5.out | exact Below.refl _ _ | apply ba | apply bd))) | go_keep)
                  (first
                    | (go_at_call 24; (with_reducible refine (refVar_any _ _).mono ?_); rintro e v3 ⟨rfl, hb⟩; have D5 : Hid (Below wz.heap.size wz v3) := (bt (by (with_reducible repeat (first | exact D5.out | exact Below.refl _ _ | apply ba | apply bd))) hb : Below wz.heap.size wz v3); have C3 := Lib.hid hb; clear hb)
                    | (go_at_call 25; (with_reducible refine (HRC.out _ _ ?b ?g ?z).mono ?_); (case b => (with_reducible repeat (first | exact D5.out | exact Below.refl _ _ | apply ba | apply bd))); (case g => (first | exact Nat.le_refl _ | exact D5.out.size | (simp; done))); (case z => (repeat (first | ((with_reducible refine z_new ?_); · (first | (with_reducible rfl) | (simp; done))) | (with_reducible refine z_old ?_) | (with_reducible refine z_below C3.out ?_) | (with_reducible refine z_drew ?_)))); rintro e v4 ⟨rfl, ht, hb⟩; have D4 : Hid (Below wz.heap.size wz v4) := (bt (by (with_reducible repeat (first | exact D5.out | exact Below.refl _ _ | apply ba | apply bd))) hb : Below wz.heap.size wz v4); have T4 := Lib.hid ht; have U4 := Lib.hid (UZ.out.below D4.out); clear ht hb)
                    | (go_at_call 18; (with_reducible refine (HRN.out _ _ U4.out T4.out).mono ?_); rintro e v5 ⟨rfl, F', hu⟩; have U6 := Lib.hid hu; clear hu))
                all_goals go_wp2
                all_goals go_meet
                all_goals exact ⟨rfl, F', U6.out⟩
              case rest =>
                obtain ⟨rfl, F', hU⟩ := hcut
                rename World => wy
                have UY := Lib.hid hU
                clear hU UZ HRC HRN HKP d0 d1 d2 d3
                have hwf1 : (Lit.int .i64 1).wf = true := by decide
                have e1 : (Ty.var 1).sub s1 = dbl (i + 1) (.var (((i + 1 : Nat) : Int) + 1)) := by rw [Ty.sub]; exact HCS.out.one
                have HEND : Hid (∀ W, Below wy.heap.size wy W → BigLoop2 w p bm q (1 + n1) (gk - 1) (.int .i64 ((i : Int) + 1 + 1)) W) := fun W hW => by
                  have h1 := (UY.out.below hW).less (L' := []) (T' := []) (fun x hx => by cases hx) (fun x hx => by cases hx)
                  exact ⟨i + 1, m + 10000, F', s1, by go_num, by omega, ⟨h1.sv.mono (by omega), h1.rf, h1.hb, h1.lo, h1.ap, h1.bx, h1.ty⟩, by have := HM.out; omega, HCS.out⟩
                by_cases h8 : i + 1 ≤ 8
                · have hz : ((Ty.var 1).sub s1).sz ≤ 1000 := by rw [e1]; exact (dbl_small _ _).2 h8
                  have HF : Hid (∀ W, Below wy.heap.size wy W → Calls Tryd.prog 10 #[.pointer (some ⟨p, 0, none⟩), .agg #[.int .i64 0, .int .i64 1, .string ⟨#[]⟩, .slice none 0 0]] W (YesEnd W ((Ty.var 1).sub s1))) := fun W hW => (UY.out.below hW).sv.full_yes (.var 1) _ (TyIs.mk_var hwf1) hz
                  have h8' : (i : Int) + 1 ≤ 8 := by omega
                  generalize (Ty.var 1).sub s1 = y at HF
                  clear e1 hz h8 hwf1
                  unfold YesEnd tval at HF
                  go_wp2_with (first
                    | (go_at_call 11; (with_reducible refine (var_any _ _).mono ?_); rintro e v1 ⟨rfl, hb⟩; have D1 := Lib.hid hb; clear hb)
                    | (go_at_call 10; (with_reducible refine (HF.out _ D1.out).mono ?_); clear HF; rintro e v2 ⟨k2, l2, rfl, _, hb⟩; have D2 := Lib.hid (bt D1.out hb); clear hb))
                  go_roundg (gk - 1)
                  case measure => omega
                  case rel => exact HEND.out _ (ba D2.out _)
                · have hz : ¬ ((Ty.var 1).sub s1).sz ≤ 1000 := by rw [e1]; exact fun h => h8 ((dbl_small _ _).1 h)
                  have HF : Hid (∀ W, Below wy.heap.size wy W → Calls Tryd.prog 10 #[.pointer (some ⟨p, 0, none⟩), .agg #[.int .i64 0, .int .i64 1, .string ⟨#[]⟩, .slice none 0 0]] W (NoEnd W 4)) := fun W hW => (UY.out.below hW).sv.full_no (.var 1) _ (TyIs.mk_var hwf1) hz
                  clear e1 hz hwf1
                  unfold NoEnd at HF
                  go_upto_region 22 with (first
                    | (go_at_call 11; (with_reducible refine (var_any _ _).mono ?_); rintro e v1 ⟨rfl, hb⟩; have D1 := Lib.hid hb; clear hb)
                    | (go_at_call 10; (with_reducible refine (HF.out _ D1.out).mono ?_); clear HF; rintro e v2 ⟨rfl, hb⟩; have D2 := Lib.hid (bt D1.out hb); clear hb))
                  have q8 : decide ((i : Int) + 1 ≤ 8) = false := by simp; omega
                  clear h8
                  go_wp2
                  go_roundg (gk - 1)
                  case measure => omega
                  case rel => exact HEND.out _ (ba D2.out _)
          · obtain rfl : i = 1 + n1 := by omega
            have hst : TwoAt w wx p bm (1000000 + 10000 * 0) 0 s q F m 0 s [] [] := ⟨HT.out.sv.mono (by omega), HT.out.rf, HT.out.hb, HT.out.lo, HT.out.ap, HT.out.bx, HT.out.ty⟩
            have HL3 : Hid (BigLoop3 w p bm q (1 + n1) (1 + n1) (.int .i64 101) wx) := ⟨0, m, F, s, rfl, by omega, hst, by have := HM.out; omega, fun k hk => HCH.out.free k (by omega)⟩
            have g1 : ¬ ((1 + n1 : Nat) : Int) + 1 ≤ 1 + (n1 : Int) := by omega
            clear hst
            go_wp2
            go_loopg [17] (1 + n1) (fun gk s17 wr => BigLoop3 w p bm q (1 + n1) gk s17 wr)
            case atStart => exact HL3.out
            case round =>
              clear HL3 HT HM HCH
              obtain ⟨i, m, F, s, rfl, hik, hT, hm, hfr⟩ := hrel
              rename World => wx
              have HT := Lib.hid hT
              have HM := Lib.hid hm
              have HFR := Lib.hid hfr
              clear hT hm hfr
              have g0 : (0 : Int) ≤ (i : Int) := by omega
              by_cases hlt : i < 1 + n1
              · have g1 : (i : Int) + 101 ≤ 100 + (1 + (n1 : Int)) := by omega
                have g2 : (i : Int) < 100 := by omega
                have hi2 : (i : Int) + 101 + 1 = (i : Int) + 102 := by omega
                have HV2 : Hid ((Lit.int .i64 ((i : Int) + 102)).wf = true) := Go.WalkArith.wf_i64 ⟨by omega, by omega⟩
                have HV1 : Hid ((Lit.int .i64 ((i : Int) + 101)).wf = true) := Go.WalkArith.wf_i64 ⟨by omega, by omega⟩
                have hm9 : m < 10000000 := by have := HM.out; omega
                have HM9 := Lib.hid hm9
                clear hm9
                have HUQ : Hid (uni s (.var ((i : Int) + 101)) (two (.var ((i : Int) + 102))) = (0, ext s ((i : Int) + 101) (two (.var ((i : Int) + 102))))) := uni_two (HFR.out _ (by omega)) (HFR.out _ (by omega)) (by omega)
                have HFN : Hid (∀ k : Int, (i : Int) + 102 ≤ k → ext s ((i : Int) + 101) (two (.var ((i : Int) + 102))) k = .var k) := fun k hk => by
                  have := free_step HFR.out k (by omega)
                  rw [hi2] at this
                  exact this
                have HUN : Hid (∀ W vb, TwoAt w W p bm (1000000 + 10000 * i) 0 s q F m 0 s [] [] → TyIs W (Fr W p bm F) (two (.var ((i : Int) + 102))) vb → Calls Tryd.prog 13 #[.pointer (some ⟨p, 0, none⟩), .agg #[.int .i64 0, .int .i64 ((i : Int) + 101), .string ⟨#[]⟩, .slice none 0 0], vb] W fun e w' => e = .returned (.int .i64 0) ∧ TwoAt w w' p bm (1000000 + 10000 * i + 10000) 0 (ext s ((i : Int) + 101) (two (.var ((i : Int) + 102)))) q F m 0 s [] []) := fun W vb h hv => by
                  have := twoUnify h (by omega) (a := .var ((i : Int) + 101)) (va := .agg #[.int .i64 0, .int .i64 ((i : Int) + 101), .string ⟨#[]⟩, .slice none 0 0]) (TyIs.mk_var HV1.out) hv (by rw [Ty.sz]; omega) (by rw [two_sz, Ty.sz]; omega)
                  rw [HUQ.out] at this
                  exact this
                generalize hs1 : ext s ((i : Int) + 101) (two (.var ((i : Int) + 102))) = s1 at HUQ HFN HUN
                clear hs1
                have HRN : Hid (∀ W vb, TwoAt w W p bm (1000000 + 10000 * i + 10000) 0 s1 q F m 0 s [] [] → TyIs W (Fr W p bm F) (two (.var ((i : Int) + 102))) vb → Calls Tryd.prog 18 #[.pointer (some ⟨q, 0, none⟩), .agg #[.int .i64 0, .int .i64 ((i : Int) + 101), .string ⟨#[]⟩, .slice none 0 0], vb] W fun e w' => e = .returned (.int .i64 0) ∧ ∃ F', TwoAt w w' p bm (1000000 + 10000 * i + 10000) 0 s1 q F' (m + 10000) 0 s1 [] []) := fun W vb h hv => by
                  have := twoRef h HM9.out (a := .var ((i : Int) + 101)) (va := .agg #[.int .i64 0, .int .i64 ((i : Int) + 101), .string ⟨#[]⟩, .slice none 0 0]) (TyIs.mk_var HV1.out) hv
                  rw [HUQ.out] at this
                  exact this
                go_wp2_with (first
                  | (go_at_call 11; (with_reducible refine (var_any _ _).mono ?_); rintro e v3 ⟨rfl, hb⟩; have D3 : Hid (Below wx.heap.size wx v3) := (bt (by (with_reducible repeat (first | exact D3.out | exact Below.refl _ _ | apply ba | apply bd))) hb : Below wx.heap.size wx v3); clear hb)
                  | (go_at_call 23; (with_reducible refine (con_two (W2 := wx) ?b ?g ?z HV2.out).mono ?_); (case b => (with_reducible repeat (first | exact D3.out | exact Below.refl _ _ | apply ba | apply bd))); (case g => exact D3.out.size); (case z => (with_reducible refine z_new ?_; · (first | (with_reducible rfl) | (simp; done)))); rintro e v4 ⟨g4, c4, rfl, ht, hb⟩; have D4 : Hid (Below wx.heap.size wx v4) := (bt (by (with_reducible repeat (first | exact D3.out | exact Below.refl _ _ | apply ba | apply bd))) hb : Below wx.heap.size wx v4); have T4 := Lib.hid (HT.out.new D4.out ht); have U4 := Lib.hid (HT.out.below D4.out); clear ht hb)
                  | (go_at_call 13; (with_reducible refine (HUN.out _ _ U4.out T4.out).mono ?_); clear T4 U4; rintro e v5 ⟨rfl, hu⟩; have U6 := Lib.hid hu; clear hu)
                  | (go_at_call 24; (with_reducible refine (refVar_any _ _).mono ?_); rintro e v3 ⟨rfl, hb⟩; have D5 : Hid (Below v5.heap.size v5 v3) := (bt (by (with_reducible repeat (first | exact D5.out | exact Below.refl _ _ | apply ba | apply bd))) hb : Below v5.heap.size v5 v3); clear hb)
                  | (go_at_call 25; (with_reducible refine (ref_two U6.out ?b ?g ?z HV2.out).mono ?_); (case b => (with_reducible repeat (first | exact D5.out | exact Below.refl _ _ | apply ba | apply bd))); (case g => exact D5.out.size); (case z => (with_reducible refine z_new ?_; · (first | (with_reducible rfl) | (simp; done)))); rintro e v4 ⟨rfl, ht, hb⟩; have T4 := Lib.hid ht; have U4 := Lib.hid (U6.out.below (bt (by (with_reducible repeat (first | exact D5.out | exact Below.refl _ _ | apply ba | apply bd))) hb : Below v5.heap.size v5 v4)); clear ht hb)
                  | (go_at_call 18; (with_reducible refine (HRN.out _ _ U4.out T4.out).mono ?_); rintro e v6 ⟨rfl, F', hu⟩; have U7 := Lib.hid hu; clear hu))
                go_roundg (gk - 1)
                case measure => omega
                case rel => exact ⟨i + 1, m + 10000, F', s1, by go_num, by omega, ⟨U7.out.sv.mono (by omega), U7.out.rf, U7.out.hb, U7.out.lo, U7.out.ap, U7.out.bx, U7.out.ty⟩, by have := HM.out; omega, fun k hk => HFN.out k (by omega)⟩
              · obtain rfl : i = 1 + n1 := by omega
                have g1 : ¬ ((1 + n1 : Nat) : Int) + 101 ≤ 100 + (1 + (n1 : Int)) := by omega
                have hm9 : m < 10000000 := by have := HM.out; omega
                have HM9 := Lib.hid hm9
                clear hm9
                have wf1 : (Lit.int .i64 1).wf = true := by decide
                have wf2 : (Lit.int .i64 101).wf = true := by decide
                obtain ⟨x, hx⟩ : ∃ x, x = uni s (.var 1) (.var 101) := ⟨_, rfl⟩
                have HUN : Hid (∀ W, Below wx.heap.size wx W → Calls Tryd.prog 13 #[.pointer (some ⟨p, 0, none⟩), .agg #[.int .i64 0, .int .i64 1, .string ⟨#[]⟩, .slice none 0 0], .agg #[.int .i64 0, .int .i64 101, .string ⟨#[]⟩, .slice none 0 0]] W fun e w' => e = .returned (.int .i64 x.1) ∧ TwoAt w w' p bm (1000000 + 10000 * (1 + n1) + 10000) 0 x.2 q F m 0 s [] []) := fun W h => by
                  have := twoUnify (HT.out.below h) (by omega) (a := .var 1) (b := .var 101) (TyIs.mk_var wf1) (TyIs.mk_var wf2) (by rw [Ty.sz]; omega) (by rw [Ty.sz]; omega)
                  rw [← hx] at this
                  exact this
                have HRN : Hid (∀ v5 W, TwoAt w v5 p bm (1000000 + 10000 * (1 + n1) + 10000) 0 x.2 q F m 0 s [] [] → Below v5.heap.size v5 W → Calls Tryd.prog 18 #[.pointer (some ⟨q, 0, none⟩), .agg #[.int .i64 0, .int .i64 1, .string ⟨#[]⟩, .slice none 0 0], .agg #[.int .i64 0, .int .i64 101, .string ⟨#[]⟩, .slice none 0 0]] W fun e w' => e = .returned (.int .i64 x.1) ∧ Below w.heap.size w w') := fun v5 W hu h => by
                  have := twoRef (hu.below h) HM9.out (a := .var 1) (b := .var 101) (TyIs.mk_var wf1) (TyIs.mk_var wf2)
                  rw [← hx] at this
                  exact this.mono fun e w' ⟨he, F', h1⟩ => ⟨he, h1.hb⟩
                clear hx wf1 wf2
                generalize x.1 = c at HUN HRN
                go_wp2_with (first
                  | (go_at_call 11; (with_reducible refine (var_any _ _).mono ?_); rintro e v3 ⟨rfl, hb⟩; have D3 : Hid (Below wx.heap.size wx v3) := (bt (by (with_reducible repeat (first | exact D3.out | exact Below.refl _ _ | apply ba | apply bd))) hb : Below wx.heap.size wx v3); clear hb)
                  | (go_at_call 13; (with_reducible refine (HUN.out _ D3.out).mono ?_); clear HUN; rintro e v5 ⟨rfl, hu⟩; have U6 := Lib.hid hu; clear hu)
                  | (go_at_call 24; (with_reducible refine (refVar_any _ _).mono ?_); rintro e v3 ⟨rfl, hb⟩; have D5 : Hid (Below v5.heap.size v5 v3) := (bt (by (with_reducible repeat (first | exact D5.out | exact Below.refl _ _ | apply ba | apply bd))) hb : Below v5.heap.size v5 v3); clear hb)
                  | (go_at_call 18; (with_reducible refine (HRN.out _ _ U6.out D5.out).mono ?_); rintro e v6 ⟨rfl, hb⟩; have B9 := Lib.hid hb; clear hb))
                go_ret
                exact ⟨by simp, B9.out⟩
end Go.Proofs.YthchkekegkhanaaDoor
