/- The walk of LexBlanks. -/
import Derived.Test.YtlailomhgipppaaGreatDoorLexBytes
import Derived.Test.YtlailomhgipppaaGreatDoorLexSpell
import Derived.Test.YtlailomhgipppaaGreatDoorLexWord
import Derived.Test.YtlailomhgipppaaGreatDoorLexJoinsW
namespace Go.Proofs.YtlailomhgipppaaGreatDoor
open Go.RowKit Lx
set_option linter.unusedVariables false
set_option linter.unusedSimpArgs false

def gapN (z : Int) : Nat := (wrap64 ((IntKind.u64.wrap z).tmod 5)).toNat
def gapT (zs : List Int) (i : Nat) : List UInt8 := if i < zs.length then fillT.getD (gapN (zs.getD i 0)) [32] else [32]
theorem fill_mem (m : Nat) (h : m < 5) : fillT.getD m [32] ∈ fillT := by
  have : m = 0 ∨ m = 1 ∨ m = 2 ∨ m = 3 ∨ m = 4 := by omega
  rcases this with rfl | rfl | rfl | rfl | rfl <;> decide
theorem gap_mem (zs : List Int) (i : Nat) : gapT zs i ∈ fillT := by
  unfold gapT
  split
  · refine fill_mem _ ?_
    obtain ⟨m, hm, h5⟩ := law_mod (zs.getD i 0) 5 (by omega) (by omega)
    unfold gapN
    rw [show wrap64 ((IntKind.u64.wrap (zs.getD i 0)).tmod 5) = (m : Int) from hm]
    omega
  · decide
def noTok : Tok := ⟨0, 0, 0, 0, []⟩
def psT (zs : List Int) (ts : List Tok) (k : Nat) : List (List UInt8 × Tok) := (List.range k).map fun j => (gapT zs j, ts.getD j noTok)
theorem psT_next (zs : List Int) {ts : List Tok} {k : Nat} {t : Tok} (h : ts[k]? = some t) : psT zs ts (k + 1) = psT zs ts k ++ [(gapT zs k, t)] := by
  unfold psT
  rw [List.range_succ, List.map_append]
  simp [List.getD, h]
theorem psT_good (zs : List Int) {ts : List Tok} (hg : ∀ x ∈ ts, Lx.Good x) {k : Nat} (hk : k ≤ ts.length) : ∀ x ∈ psT zs ts k, x.1 ∈ fillT ∧ Lx.Good x.2 := by
  intro x hx
  obtain ⟨j, hj, rfl⟩ := List.mem_map.1 hx
  have hj2 := List.mem_range.1 hj
  refine ⟨gap_mem _ _, hg _ ?_⟩
  have : j < ts.length := by omega
  simp [List.getD, this]
theorem psT_len (zs : List Int) {ts : List Tok} (hg : ∀ x ∈ ts, Lx.Good x) {k : Nat} (hk : k ≤ ts.length) : (pieces (psT zs ts k)).length ≤ 31 * k + 4 * (ts.map tlen).sum := by
  have h := pieces_len _ (psT_good zs hg hk)
  have e : ((psT zs ts k).map (fun x => tlen x.2)).sum = ((ts.take k).map tlen).sum := by
    clear h
    induction k with
    | zero => rfl
    | succ k ih =>
      have ht : ts[k]? = some ts[k] := List.getElem?_eq_getElem (by omega)
      rw [psT_next zs ht, List.map_append, List.sum_append, ih (by omega), List.take_add_one, ht]
      simp only [List.map_append, List.sum_append, Option.toList_some, List.map_cons, List.map_nil, List.sum_cons, List.sum_nil]
  have e2 : (psT zs ts k).length = k := by simp [psT]
  have e3 : ((ts.take k).map tlen).sum ≤ (ts.map tlen).sum := by
    conv => rhs; rw [← List.take_append_drop k ts]
    rw [List.map_append, List.sum_append]
    omega
  rw [e, e2] at h
  omega
def RingsAt (N : Nat) (w4 : World) (zs : List Int) (ts : List Tok) (i : Nat) (s9 s10 s11 s12 : Value) (wr : World) : Prop :=
  s9 = .string (bytes (pieces (psT zs ts i))) ∧ s10 = .int .i64 ((advs (1, 1) (pieces (psT zs ts i))).1 : Int) ∧ s11 = .int .i64 ((advs (1, 1) (pieces (psT zs ts i))).2 : Int) ∧ RRow wr N s12 (wants (psT zs ts i) (1, 1)) ∧ Below w4.heap.size w4 wr
def BlLoop (N : Nat) (w4 : World) (zs : List Int) (ts : List Tok) (gk : Nat) (s9 s10 s11 s12 s13 : Value) (wr : World) : Prop :=
  ∃ i : Nat, i ≤ 100 ∧ i ≤ ts.length ∧ i + gk = min ts.length 100 ∧ s13 = .int .i64 (i : Int) ∧ RingsAt N w4 zs ts i s9 s10 s11 s12 wr
def InLoop (N : Nat) (w5 : World) (q0 : Pos) (g sp : List UInt8) (t : Tok) (wa : List Tok) (gk : Nat) (s10 s11 s12 s17 : Value) (wr : World) : Prop :=
  ∃ k : Nat, k + gk = (g ++ sp).length ∧ s17 = .int .i64 (k : Int) ∧ s10 = .int .i64 ((advs q0 ((g ++ sp).take k)).1 : Int) ∧ s11 = .int .i64 ((advs q0 ((g ++ sp).take k)).2 : Int) ∧ RRow wr N s12 (if k ≤ g.length then wa else wa ++ [wantT t (advs q0 g)]) ∧ Below N w5 wr
theorem advs_next (q : Pos) {l : List UInt8} {k : Nat} {c : UInt8} (h : l[k]? = some c) : advs q (l.take (k + 1)) = adv (advs q (l.take k)) c := by
  rw [List.take_add_one, h, advs_append]
  rfl
theorem advs_two (l : List UInt8) (q : Pos) (M : Nat) (h1 : q.1 + l.length ≤ M) (h2 : q.2 + l.length ≤ M) (h3 : 1 + l.length ≤ M) : (advs q l).1 ≤ M ∧ (advs q l).2 ≤ M := by
  induction l generalizing q with
  | nil => exact ⟨by simpa [advs] using h1, by simpa [advs] using h2⟩
  | cons c l ih =>
    rw [advs_cons]
    simp only [List.length_cons] at h1 h2 h3
    refine ih _ ?_ ?_ (by omega)
    · unfold adv; split <;> simp only <;> omega
    · unfold adv; split <;> simp only <;> omega
theorem new5a (w : World) (x0 x1 x2 x3 x4 : Value) (T : TypeId) : ∀ (j : Nat) u, [x0, x1, x2, x3, x4][j]? = some u → (w.alloc (.cells #[x0, x1, x2, x3, x4] T)).cell? ⟨w.heap.size, j, none⟩ = some u := fun j u hj => by
  have h := heap_alloc_new w (.cells #[x0, x1, x2, x3, x4] T)
  have := World.news_of_block (cs := #[x0, x1, x2, x3, x4]) (fr := (0, 0)) h j u hj
  rwa [Go.WideShapes.add_plain, Nat.zero_add] at this
theorem fills_at (w : World) (m : Nat) (hm : m < 5) : (w.alloc (.cells #[.string ⟨#[32]⟩, .string ⟨#[9]⟩, .string ⟨#[10]⟩, .string ⟨#[59, 32, 40, 120, 32, 34, 32, 121, 10]⟩, .string ⟨#[32, 32, 10, 32]⟩] 9)).cell? ⟨w.heap.size, m, none⟩ = some (.string (bytes (fillT.getD m [32]))) := by
  have h := heap_alloc_new w (.cells #[.string ⟨#[32]⟩, .string ⟨#[9]⟩, .string ⟨#[10]⟩, .string ⟨#[59, 32, 40, 120, 32, 34, 32, 121, 10]⟩, .string ⟨#[32, 32, 10, 32]⟩] 9)
  have : m = 0 ∨ m = 1 ∨ m = 2 ∨ m = 3 ∨ m = 4 := by omega
  rcases this with rfl | rfl | rfl | rfl | rfl <;> (unfold World.cell?; rw [h]; rfl)
set_option maxRecDepth 100000 in
set_option maxHeartbeats 16000000 in
theorem lexBlanks_walk (src : ByteArray) (zs : List Int) (ao : Option Addr) (cap : Nat) (w : World) (hF : FTab w) (hE : ErrVar w) (hsrc : src.size ≤ maxLen)
    (hz : ∀ j, j < zs.length → ∃ b off, ao = some ⟨b, off, none⟩ ∧ b < w.heap.size ∧ w.cell? ⟨b, off + j, none⟩ = some (.int .i64 (zs.getD j 0))) (hzl : zs.length ≤ maxLen) :
    Calls Tryz.prog 3 #[.string src, .slice ao zs.length cap] w fun e w' => e = .returned (.bool true) ∧ Below w.heap.size w w' := by
  have HLX : Hid (∀ W, Below w.heap.size w W → Calls Tryz.prog 6 #[] W fun e w' => e = .returned (.bool true) ∧ Below W.heap.size W w') := fun W hW => lexes_any W (hF.below hW) (hE.below hW)
  by_cases hbig : 2000 < src.size
  · have d1 : (2000 : Int) < (src.size : Int) := by omega
    clear hbig hsrc hz hzl
    go_enter Tryz.func3, Tryz.ntmps3
    go_wp2_with (go_at_call 6; refine (HLX.out _ (Below.refl _ _)).mono ?_; rintro e w1 ⟨rfl, hb⟩; have HB1 := Lib.hid hb; clear hb; dsimp only)
    go_ret
    exact ⟨rfl, HB1.out⟩
  · have d1 : ¬ (2000 : Int) < (src.size : Int) := by omega
    have hss : src.size ≤ 2000 := by omega
    cases hA : Lx.scanT src.data.toList with
    | error x =>
      have HSA := Lib.hid (scan_bad (src := src) (by omega) hF hE hA)
      clear hA hF hE hsrc hz hzl hbig hss
      go_enter Tryz.func3, Tryz.ntmps3
      go_wp2_with (first
        | (go_at_call 7; (with_reducible refine HSA.out.mono ?_); rintro e w1 ⟨rfl, hb⟩; have HB1 := Lib.hid (hb.alloc hb.size (.cells #[.int .i64 x.1, .int .i64 x.2] 26)); clear hb HSA; dsimp only)
        | (go_at_call 6; (with_reducible refine (HLX.out _ HB1.out).mono ?_); rintro e w4 ⟨rfl, hb⟩; have HB4 := Lib.hid (HB1.out.trans (hb.mono HB1.out.size)); clear hb HB1; dsimp only)
        | (go_at_call 6; (with_reducible refine (HLX.out _ HB4.out).mono ?_); rintro e w5 ⟨rfl, hb⟩; have HB5 := Lib.hid (HB4.out.trans (hb.mono HB4.out.size)); clear hb HB4; dsimp only))
      go_ret
      exact ⟨rfl, HB5.out⟩
    | ok ts =>
      have HSA := Lib.hid (scan_ok (src := src) (by omega) hF hE hA)
      have htl : ts.length ≤ 2000 := by
        have := scanF_len _ _ _ _ hA
        simp only [List.length_nil] at this
        have := Lib.size_eq src
        omega
      have hgs := scanF_good _ _ _ _ (fun x hx => by cases hx) hA
      have hsum : (ts.map tlen).sum ≤ 2000 := by
        have := hgs.2
        have h2 := Lib.size_eq src
        simp only [List.map_nil, List.sum_nil] at this
        omega
      have HGD := Lib.hid hgs.1
      have HPL : Hid (∀ i, i ≤ ts.length → i ≤ 100 → (pieces (psT zs ts i)).length ≤ 11100) := fun i h1 h2 => by
        have := psT_len zs hgs.1 h1
        omega
      have HS3 : Hid (∀ i, i ≤ ts.length → i ≤ 100 → ∀ W, Below w.heap.size w W → Calls Tryz.prog 7 #[.string (bytes (pieces (psT zs ts i)) ++ ⟨#[10, 59]⟩)] W fun e w' => ∃ vo, e = .returned (.tuple #[vo, .agg #[.int .i64 0, .int .i64 0], .int .i64 0]) ∧ TRow w' W.heap.size vo (wants (psT zs ts i) (1, 1)) ∧ Below W.heap.size W w') := fun i h1 h2 W hW => by
        rw [show (⟨#[10, 59]⟩ : ByteArray) = bytes [10, 59] from rfl, bytes_append]
        refine scan_ok ?_ (hF.below hW) (hE.below hW) ?_
        · rw [bytes_size, List.length_append]
          have := HPL.out i h1 h2
          simp; omega
        · rw [show (bytes (pieces (psT zs ts i) ++ [10, 59])).data.toList = pieces (psT zs ts i) ++ [10, 59] by simp [bytes]]
          exact scan_blanks _ (psT_good zs hgs.1 h1)
      have HTL := Lib.hid htl
      have HZ := Lib.hid hz
      have hz2 : (zs.length : Int) ≤ 9223372036854775807 := by unfold maxLen at hzl; omega
      clear hgs hsum htl hA hF hE hsrc hz hzl hbig hss
      go_enter Tryz.func3, Tryz.ntmps3
      go_wp2_with (first
        | (go_at_call 7; (with_reducible refine HSA.out.mono ?_); rintro e w1 ⟨vo, rfl, hr, hb⟩; have HR1 := Lib.hid (hr.below ((Below.refl _ _).alloc (Nat.le_refl _) (.cells #[.int .i64 0, .int .i64 0] 26))); have HB1 := Lib.hid (hb.alloc hb.size (.cells #[.int .i64 0, .int .i64 0] 26)); clear hr hb HSA; dsimp only)
        | (go_at_call 6; (with_reducible refine (HLX.out _ HB1.out).mono ?_); rintro e w2 ⟨rfl, hb⟩; have HB2 := Lib.hid (HB1.out.trans (hb.mono HB1.out.size)); replace HR1 := Lib.hid (HR1.out.below hb); clear hb HB1; dsimp only))
      have HFL := Lib.hid (fills_at w2)
      have HB4 := Lib.hid (HB2.out.alloc HB2.out.size (.cells #[.string ⟨#[32]⟩, .string ⟨#[9]⟩, .string ⟨#[10]⟩, .string ⟨#[59, 32, 40, 120, 32, 34, 32, 121, 10]⟩, .string ⟨#[32, 32, 10, 32]⟩] 9))
      replace HR1 := Lib.hid (HR1.out.below ((Below.refl _ _).alloc (Nat.le_refl _) (.cells #[.string ⟨#[32]⟩, .string ⟨#[9]⟩, .string ⟨#[10]⟩, .string ⟨#[59, 32, 40, 120, 32, 34, 32, 121, 10]⟩, .string ⟨#[32, 32, 10, 32]⟩] 9)))
      have HGL : Hid (w2.heap.size < (w2.alloc (.cells #[.string ⟨#[32]⟩, .string ⟨#[9]⟩, .string ⟨#[10]⟩, .string ⟨#[59, 32, 40, 120, 32, 34, 32, 121, 10]⟩, .string ⟨#[32, 32, 10, 32]⟩] 9)).heap.size) := by show _ < _; simp
      generalize w2.alloc (.cells #[.string ⟨#[32]⟩, .string ⟨#[9]⟩, .string ⟨#[10]⟩, .string ⟨#[59, 32, 40, 120, 32, 34, 32, 121, 10]⟩, .string ⟨#[32, 32, 10, 32]⟩] 9) = w4 at *
      generalize w2.heap.size = gb at *
      obtain ⟨av, cv, rfl, HCV⟩ : ∃ av cv, vo = .slice av ts.length cv ∧ Hid (∀ (j : Nat) t, ts[j]? = some t → ∃ g, av = some ⟨g, 0, none⟩ ∧ g < w4.heap.size ∧ w4.cell? ⟨g, j * 5, none⟩ = some (.int .i64 t.kind) ∧ w4.cell? ⟨g, j * 5 + 1, none⟩ = some (.int .i64 t.line) ∧ w4.cell? ⟨g, j * 5 + 2, none⟩ = some (.int .i64 t.col) ∧ w4.cell? ⟨g, j * 5 + 3, none⟩ = some (.int .i64 t.num) ∧ w4.cell? ⟨g, j * 5 + 4, none⟩ = some (.string (bytes t.text))) := by
        rcases HR1.out.form with ⟨h1, h2⟩ | ⟨g, cap, h1, h3, h4⟩
        · exact ⟨none, 0, by rw [h2, h1]; rfl, fun j t ht => by rw [h1] at ht; cases ht⟩
        · refine ⟨_, cap, h1, fun j t ht => ⟨g, rfl, HR1.out.1.lt (by rw [h1]; rfl), ?_⟩⟩
          obtain ⟨g1, g2, g3, g4, g5⟩ := tcells_get ht
          exact ⟨h4 _ _ g1, h4 _ _ g2, h4 _ _ g3, h4 _ _ g4, h4 _ _ g5⟩
      have htl1 : (ts.length : Int) ≤ 2000 := by have := HTL.out; omega
      go_loopg [9, 10, 11, 12, 13] (min ts.length 100) (fun gk s9 s10 s11 s12 s13 wr => BlLoop w4.heap.size w4 zs ts gk s9 s10 s11 s12 s13 wr)
      case atStart => exact ⟨0, by omega, by omega, by omega, rfl, rfl, rfl, rfl, ⟨RowZ.nil _ _ _, fun k hk => by simp [Value.ownBlock] at hk⟩, Below.refl _ _⟩
      case round =>
        obtain ⟨i, hi1, hi2, higk, rfl, rfl, rfl, rfl, hrow, hb⟩ := hrel
        have HI1 := Lib.hid hi1
        have HI2 := Lib.hid hi2
        have HIG := Lib.hid higk
        have HROW := Lib.hid hrow
        have HBR := Lib.hid hb
        have i0 : (0 : Int) ≤ (i : Int) := by omega
        have hi100 : (i : Int) ≤ 100 := by omega
        have hpl := HPL.out i hi2 hi1
        by_cases hlt : i < ts.length ∧ i < 100
        · obtain ⟨hlt1, hlt2⟩ := hlt
          have i1 : (i : Int) < (ts.length : Int) := by omega
          have i2 : (i : Int) < 100 := by omega
          obtain ⟨t, ht⟩ : ∃ t, ts[i]? = some t := ⟨_, List.getElem?_eq_getElem hlt1⟩
          have HT := Lib.hid ht
          have HGT := Lib.hid (HGD.out t (List.mem_of_getElem? ht))
          obtain ⟨gv, rfl, hgv, c0, c1, c2, c3, c4⟩ := HCV.out i t ht
          have z0 := (hb.cell (p := ⟨gv, i * 5, none⟩) hgv).trans c0
          have z1 := (hb.cell (p := ⟨gv, i * 5 + 1, none⟩) hgv).trans c1
          have z2 := (hb.cell (p := ⟨gv, i * 5 + 2, none⟩) hgv).trans c2
          have z3 := (hb.cell (p := ⟨gv, i * 5 + 3, none⟩) hgv).trans c3
          have z4 := (hb.cell (p := ⟨gv, i * 5 + 4, none⟩) hgv).trans c4
          have f0 : wr.cell? ⟨gb, 0, none⟩ = some (.string ⟨#[32]⟩) := (hb.cell (p := ⟨gb, 0, none⟩) HGL.out).trans (HFL.out 0 (by omega))
          obtain ⟨g, hg⟩ : ∃ g, g = gapT zs i := ⟨_, rfl⟩
          have HG := Lib.hid hg
          have hgl : g.length ≤ 9 := by
            have := gap_mem zs i
            rw [← hg] at this
            simp only [fillT, List.mem_cons, List.not_mem_nil, or_false] at this
            rcases this with rfl | rfl | rfl | rfl | rfl <;> decide
          have hnx := psT_next zs ht
          rw [← hg] at hnx
          have hpl2 := HPL.out (i + 1) (by omega) (by omega)
          rw [hnx, pieces_app] at hpl2
          have e1 : pieces [(g, t)] = g ++ spellT t := by simp [pieces]
          rw [e1, List.length_append, List.length_append] at hpl2
          have hsl : (spellT t).length ≤ 11100 := by omega
          have hwx : wants (psT zs ts (i + 1)) (1, 1) = wants (psT zs ts i) (1, 1) ++ [wantT t (advs (advs (1, 1) (pieces (psT zs ts i))) g)] := by
            rw [hnx, wants_app]; rfl
          have hpx : pieces (psT zs ts (i + 1)) = pieces (psT zs ts i) ++ (g ++ spellT t) := by rw [hnx, pieces_app, e1]
          have HWX := Lib.hid hwx
          have HPX := Lib.hid hpx
          obtain ⟨P, hP⟩ : ∃ P, P = pieces (psT zs ts i) := ⟨_, rfl⟩
          obtain ⟨sp, hsp⟩ : ∃ sp, sp = spellT t := ⟨_, rfl⟩
          obtain ⟨wa, hwa⟩ : ∃ wa, wa = wants (psT zs ts i) (1, 1) := ⟨_, rfl⟩
          rw [← hP] at HWX HPX hpl hpl2 ⊢
          rw [← hsp] at HPX hsl hpl2
          rw [← hwa] at HWX HROW
          have hq := advs_two P (1, 1) 11101 (by simp only; omega) (by simp only; omega) (by omega)
          obtain ⟨q0, hq0⟩ : ∃ q0, q0 = advs (1, 1) P := ⟨_, rfl⟩
          rw [← hq0] at hq HWX ⊢
          have HQ := Lib.hid hq
          have HQ0 := Lib.hid hq0
          have HSPL : Hid (∀ W, Calls Tryz.prog 8 #[.agg #[.int .i64 t.kind, .int .i64 t.line, .int .i64 t.col, .int .i64 t.num, .string (bytes t.text)]] W fun e w' => e = .returned (.string (bytes sp)) ∧ Below W.heap.size W w') := fun W => by
            rw [hsp]; exact spell_any t HGT.out W
          have HSL := Lib.hid hsl
          have HSP1 : Hid (0 < sp.length) := by
            obtain ⟨c, r, h1, _⟩ := step_spell HGT.out (m := []) (fun d s h => by cases h) (1, 1)
            rw [hsp, h1]
            show 0 < _
            simp
          have HWA : Hid (wa.length ≤ 100) := by
            have h : ∀ (l : List (List UInt8 × Tok)) (q : Pos), (wants l q).length = l.length := fun l => by
              induction l with
              | nil => intro q; rfl
              | cons x l ih => intro q; obtain ⟨g, t⟩ := x; simp [wants, ih]
            show _ ≤ _
            rw [hwa, h]
            simp [psT]; omega
          have HLT1 : Hid (i < ts.length ∧ i < 100) := ⟨hlt1, hlt2⟩
          obtain ⟨gk0, hgk0⟩ : ∃ x, x = gk := ⟨_, rfl⟩
          have HGLN := Lib.hid hgl
          have HPL2 := Lib.hid hpl2
          have hcat : ¬ 9223372036854775807 < (bytes g).size + (bytes sp).size := by rw [bytes_size, bytes_size]; omega
          have hcat2 : ¬ 9223372036854775807 < (bytes P).size + (bytes (g ++ sp)).size := by rw [bytes_size, bytes_size, List.length_append]; omega
          have hbg : bytes g ++ bytes sp = bytes (g ++ sp) := bytes_append g sp
          have hbs : (bytes (g ++ sp)).size = g.length + sp.length := by rw [bytes_size, List.length_append]
          have hbs1 : (bytes g).size = g.length := bytes_size g
          have HBS := Lib.hid hbs
          have HBS1 := Lib.hid hbs1
          clear hbs hbs1 hsl hgl hpl hpl2 hq hnx hwx hpx e1 ht hgv c0 c1 c2 c3 c4 hlt1 hlt2 hb hrow hi1 hi2 higk hsp hP hwa hq0 hg
          by_cases hzi : i < zs.length
          · obtain ⟨bz, oz, rfl, hbz, hcz⟩ := HZ.out i hzi
            have k1 : (i : Int) < (zs.length : Int) := by omega
            have cz := (HBR.out.cell (p := ⟨bz, oz + i, none⟩) (Nat.lt_of_lt_of_le hbz HB4.out.size)).trans ((HB4.out.cell (p := ⟨bz, oz + i, none⟩) hbz).trans hcz)
            obtain ⟨m, hm, hm5⟩ := law_mod (zs.getD i 0) 5 (by omega) (by omega)
            have hm' : wrap64 ((IntKind.u64.wrap (zs.getD i 0)).tmod 5) = (m : Int) := hm
            have hgm : g = fillT.getD m [32] := by
              rw [HG.out]; unfold gapT gapN; rw [if_pos hzi, hm']; simp
            have fm := (HBR.out.cell (p := ⟨gb, m, none⟩) HGL.out).trans (HFL.out m hm5)
            rw [← hgm] at fm
            have m0 : (0 : Int) ≤ (m : Int) := by omega
            have m5 : (m : Int) < 5 := by omega
            generalize zs.getD i 0 = zz at *
            clear hm hcz hbz hm5 hgm hzi
            go_wp2_with (go_at_call 8; (with_reducible refine (HSPL.out _).mono ?_); rintro e w5 ⟨rfl, hb⟩; have HB5 := Lib.hid hb; clear hb HSPL; dsimp only)
            try rw [hm']
            go_loopg [10, 11, 12, 17] (g.length + sp.length) (fun gk s10 s11 s12 s17 wi => InLoop w4.heap.size w5 q0 g sp t wa gk s10 s11 s12 s17 wi)
            case atStart => exact ⟨0, by rw [List.length_append]; omega, rfl, rfl, rfl, by simpa using HROW.out.below HB5.out, Below.refl _ _⟩
            case round =>
              obtain ⟨k, hk, rfl, rfl, rfl, hrw, hbw⟩ := hrel
              have HK := Lib.hid hk
              have HBW := Lib.hid hbw
              have HBX : Hid (Below w4.heap.size w4 wr) := HBR.out.trans ((HB5.out.mono HBR.out.size).trans hbw)
              have hq2 := advs_two ((g ++ sp).take k) q0 30000 (by have := HQ.out; have := HSL.out; have := HGLN.out; have := List.length_take_le' k (g ++ sp); rw [List.length_append] at this; omega) (by have := HQ.out; have := HSL.out; have := HGLN.out; have := List.length_take_le' k (g ++ sp); rw [List.length_append] at this; omega) (by have := HSL.out; have := HGLN.out; have := List.length_take_le' k (g ++ sp); rw [List.length_append] at this; omega)
              obtain ⟨q, hqk⟩ : ∃ q, q = advs q0 ((g ++ sp).take k) := ⟨_, rfl⟩
              rw [← hqk] at hq2 ⊢
              have HQK := Lib.hid hqk
              have q1 : (q.1 : Int) ≤ 30000 := by omega
              have q2 : (q.2 : Int) ≤ 30000 := by omega
              obtain ⟨a12, c12, h12, _⟩ := hrw.form2
              generalize hn12 : (if k ≤ g.length then wa else wa ++ [wantT t (advs q0 g)]).length = n12 at h12
              subst h12
              have HRW0 := Lib.hid hrw
              have k00 : (0 : Int) ≤ (k : Int) := by omega
              clear hqk hq2 hbw hrw hn12
              rw [List.length_append] at HK hk
              by_cases hk2 : k < g.length + sp.length
              · have HK2 := Lib.hid hk2
                have k01 : (k : Int) < ((bytes (g ++ sp)).size : Int) := by have := HBS.out; omega
                have k02 : (k : Int) ≤ 11200 := by have := HSL.out; have := HGLN.out; omega
                obtain ⟨c, hc⟩ : ∃ c, (g ++ sp)[k]? = some c := ⟨_, List.getElem?_eq_getElem (by rw [List.length_append]; exact hk2)⟩
                have HC := Lib.hid hc
                have hkb : k < (bytes (g ++ sp)).size := by have := HBS.out; omega
                have hcb : (bytes (g ++ sp))[k]'hkb = c := by
                  have h1 : (bytes (g ++ sp)).data.toList = g ++ sp := by simp [bytes]
                  have := Lib.getD_at (bytes (g ++ sp)) k hkb
                  rw [h1, List.getD_eq_getElem?_getD, hc, Option.getD_some] at this
                  first | exact this | exact this.symm
                clear hc hk hk2
                by_cases hkg : k = g.length
                · have j1 : ((k : Int) == ((bytes g).size : Int)) = true := by rw [HBS1.out, hkg]; simp
                  have HRW : Hid (RRow wr w4.heap.size (.slice a12 n12 c12) wa) := by have h := HRW0.out; rwa [if_pos (by omega)] at h
                  have HQG : Hid (q = advs q0 g) := by rw [HQK.out, hkg, List.take_left' rfl]; exact rfl
                  have HKG := Lib.hid hkg
                  have i3 : (i : Int) < (ts.length : Int) := i1
                  clear hkg HRW0
                  by_cases hk3 : t.kind = 3
                  · have j3 : ((t.kind : Int) == 3) = true := by simp only [beq_iff_eq]; omega
                    have HWT : Hid (wantT t q = ⟨3, q.1, q.2, 0, half⟩) := by unfold wantT; rw [if_pos hk3]; exact rfl
                    clear hk3
                    by_cases h10 : c = 10
                    · subst h10
                      go_upto_region 25 with (first
                        | (go_at_call 9; (with_reducible refine (from_any _ _ _ _ (HR1.out.below HBX.out) (by have := HTL.out; omega)).mono ?_); rintro e w7 ⟨v7, rfl, hr, hb⟩; obtain ⟨a7, c7, rfl, hc7⟩ := hr.form2; obtain ⟨g7, rfl, hg7, y0, y1, y2, y3, y4⟩ := hc7 i t HT.out; have HB7 := Lib.hid hb; clear hb hr hc7 hg7; dsimp only)
                        | (go_at_call 10; (with_reducible refine (word_half_any _).mono ?_); rintro e w8 ⟨rfl, hb⟩; have HB8 := Lib.hid hb; have hbl := (hb.block w7.heap.size (by simp)).trans (heap_alloc_new w7 _); obtain ⟨⟨x0, x1, x2, x3, x4⟩, xf⟩ := bxs5 hbl; have HBL := Lib.hid hbl; clear hb hbl; dsimp only))
                      have zz := five_stored (y0 := .int .i64 3) (y1 := .int .i64 0) (y2 := .int .i64 0) (y3 := .int .i64 0) (y4 := .string (bytes half)) HBL.out
                      have zc := five_stores (Chg.refl [w7.heap.size] w8) (p := w7.heap.size) (.inl (by simp)) (.int .i64 3) (.int .i64 0) (.int .i64 0) (.int .i64 0) (.string (bytes half))
                      generalize (((((w8.setCell _ _).setCell _ _).setCell _ _).setCell _ _).setCell _ _) = wz at zz zc ⊢
                      clear x0 x1 x2 x3 x4 xf HBL
                      obtain ⟨⟨x0, x1, x2, x3, x4⟩, xf⟩ := bxs5 zz
                      have ZZ := Lib.hid zz
                      have ZC := Lib.hid zc
                      clear zz zc
                      go_upto_region 26 with (fail)
                      have zz2 := set_block (o := 2) (u := .int .i64 q.2) (set_block (o := 1) (u := .int .i64 q.1) ZZ.out)
                      have zc2 := (ZC.out.setCell (p := ⟨w7.heap.size, 1, none⟩) (.inl (by simp)) (.int .i64 q.1)).setCell (p := ⟨w7.heap.size, 2, none⟩) (.inl (by simp)) (.int .i64 q.2)
                      generalize ((wz.setCell _ _).setCell _ _) = wy at zz2 zc2 ⊢
                      clear x0 x1 x2 x3 x4 xf ZZ ZC
                      have zz3 : wy.heap[w7.heap.size]? = some (.cells #[.int .i64 3, .int .i64 q.1, .int .i64 q.2, .int .i64 0, .string (bytes half)] 36 (0, 0)) := zz2
                      obtain ⟨⟨x0, x1, x2, x3, x4⟩, xf⟩ := bxs5 zz3
                      have HBY : Hid (Below wr.heap.size wr (wy.alloc (.cells #[.int .i64 3, .int .i64 q.1, .int .i64 q.2, .int .i64 0, .string (bytes half)] 36))) := by
                        have h1 := (HB7.out.alloc HB7.out.size _).trans (HB8.out.mono (by have := HB7.out.size; simp; omega))
                        exact ((h1.trans (zc2.below h1.size (by have := HB7.out.size; simp; omega))).alloc (Nat.le_trans h1.size zc2.size) _)
                      clear zz2 zz3 zc2
                      go_wp2_with (at_builtin; refine wpList_apprs (us := [wantT t q]) (N := w4.heap.size) (wy.alloc (.cells #[.int .i64 3, .int .i64 q.1, .int .i64 q.2, .int .i64 0, .string (bytes half)] 36)) rfl _ _ rfl rfl (HRW.out.below HBY.out) (by have := HBX.out.size; have := HBY.out.size; omega) rfl (by rw [HWT.out]; exact new5a wy _ _ _ _ _ _) (by simp) (by have := HWA.out; simp; omega) ?_; intro v9 w9 hr9 hb9; have HR9 := Lib.hid hr9; have HB9 := Lib.hid hb9; clear hr9 hb9)
                      go_roundg (gk - 1)
                      case measure => have := HK.out; have := HK2.out; omega
                      case rel =>
                        have ha := advs_next q0 HC.out
                        rw [← HQK.out] at ha
                        exact ⟨k + 1, by rw [List.length_append]; have := HK.out; have := HK2.out; omega, by go_num, by rw [ha]; unfold adv; rw [if_pos rfl]; simp, by rw [ha]; unfold adv; rw [if_pos rfl]; simp, by rw [if_neg (by have := HKG.out; omega), ← HQG.out]; exact HR9.out, HBW.out.trans ((HBY.out.mono HBX.out.size).trans HB9.out)⟩
                    · have q10 : ((c.toNat : Int) == 10) = false := ne_lit h10 (by rfl)
                      go_upto_region 25 with (first
                        | (go_at_call 9; (with_reducible refine (from_any _ _ _ _ (HR1.out.below HBX.out) (by have := HTL.out; omega)).mono ?_); rintro e w7 ⟨v7, rfl, hr, hb⟩; obtain ⟨a7, c7, rfl, hc7⟩ := hr.form2; obtain ⟨g7, rfl, hg7, y0, y1, y2, y3, y4⟩ := hc7 i t HT.out; have HB7 := Lib.hid hb; clear hb hr hc7 hg7; dsimp only)
                        | (go_at_call 10; (with_reducible refine (word_half_any _).mono ?_); rintro e w8 ⟨rfl, hb⟩; have HB8 := Lib.hid hb; have hbl := (hb.block w7.heap.size (by simp)).trans (heap_alloc_new w7 _); obtain ⟨⟨x0, x1, x2, x3, x4⟩, xf⟩ := bxs5 hbl; have HBL := Lib.hid hbl; clear hb hbl; dsimp only))
                      have zz := five_stored (y0 := .int .i64 3) (y1 := .int .i64 0) (y2 := .int .i64 0) (y3 := .int .i64 0) (y4 := .string (bytes half)) HBL.out
                      have zc := five_stores (Chg.refl [w7.heap.size] w8) (p := w7.heap.size) (.inl (by simp)) (.int .i64 3) (.int .i64 0) (.int .i64 0) (.int .i64 0) (.string (bytes half))
                      generalize (((((w8.setCell _ _).setCell _ _).setCell _ _).setCell _ _).setCell _ _) = wz at zz zc ⊢
                      clear x0 x1 x2 x3 x4 xf HBL
                      obtain ⟨⟨x0, x1, x2, x3, x4⟩, xf⟩ := bxs5 zz
                      have ZZ := Lib.hid zz
                      have ZC := Lib.hid zc
                      clear zz zc
                      go_upto_region 26 with (fail)
                      have zz2 := set_block (o := 2) (u := .int .i64 q.2) (set_block (o := 1) (u := .int .i64 q.1) ZZ.out)
                      have zc2 := (ZC.out.setCell (p := ⟨w7.heap.size, 1, none⟩) (.inl (by simp)) (.int .i64 q.1)).setCell (p := ⟨w7.heap.size, 2, none⟩) (.inl (by simp)) (.int .i64 q.2)
                      generalize ((wz.setCell _ _).setCell _ _) = wy at zz2 zc2 ⊢
                      clear x0 x1 x2 x3 x4 xf ZZ ZC
                      have zz3 : wy.heap[w7.heap.size]? = some (.cells #[.int .i64 3, .int .i64 q.1, .int .i64 q.2, .int .i64 0, .string (bytes half)] 36 (0, 0)) := zz2
                      obtain ⟨⟨x0, x1, x2, x3, x4⟩, xf⟩ := bxs5 zz3
                      have HBY : Hid (Below wr.heap.size wr (wy.alloc (.cells #[.int .i64 3, .int .i64 q.1, .int .i64 q.2, .int .i64 0, .string (bytes half)] 36))) := by
                        have h1 := (HB7.out.alloc HB7.out.size _).trans (HB8.out.mono (by have := HB7.out.size; simp; omega))
                        exact ((h1.trans (zc2.below h1.size (by have := HB7.out.size; simp; omega))).alloc (Nat.le_trans h1.size zc2.size) _)
                      clear zz2 zz3 zc2
                      go_wp2_with (at_builtin; refine wpList_apprs (us := [wantT t q]) (N := w4.heap.size) (wy.alloc (.cells #[.int .i64 3, .int .i64 q.1, .int .i64 q.2, .int .i64 0, .string (bytes half)] 36)) rfl _ _ rfl rfl (HRW.out.below HBY.out) (by have := HBX.out.size; have := HBY.out.size; omega) rfl (by rw [HWT.out]; exact new5a wy _ _ _ _ _ _) (by simp) (by have := HWA.out; simp; omega) ?_; intro v9 w9 hr9 hb9; have HR9 := Lib.hid hr9; have HB9 := Lib.hid hb9; clear hr9 hb9)
                      go_roundg (gk - 1)
                      case measure => have := HK.out; have := HK2.out; omega
                      case rel =>
                        have ha := advs_next q0 HC.out
                        rw [← HQK.out] at ha
                        exact ⟨k + 1, by rw [List.length_append]; have := HK.out; have := HK2.out; omega, by go_num, by rw [ha]; unfold adv; rw [if_neg h10], by rw [ha]; unfold adv; rw [if_neg h10]; simp, by rw [if_neg (by have := HKG.out; omega), ← HQG.out]; exact HR9.out, HBW.out.trans ((HBY.out.mono HBX.out.size).trans HB9.out)⟩
                  · have j3 : ((t.kind : Int) == 3) = false := by simp only [beq_eq_false_iff_ne]; omega
                    have HWT : Hid (wantT t q = ⟨t.kind, q.1, q.2, t.num, t.text⟩) := by unfold wantT; rw [if_neg hk3]; exact rfl
                    clear hk3
                    by_cases h10 : c = 10
                    · subst h10
                      go_wp2_with (first
                        | (go_at_call 9; (with_reducible refine (from_any _ _ _ _ (HR1.out.below HBX.out) (by have := HTL.out; omega)).mono ?_); rintro e w7 ⟨v7, rfl, hr, hb⟩; obtain ⟨a7, c7, rfl, hc7⟩ := hr.form2; obtain ⟨g7, rfl, hg7, y0, y1, y2, y3, y4⟩ := hc7 i t HT.out; have HB7 := Lib.hid hb; clear hb hr hc7 hg7; dsimp only)
                        | (at_builtin; refine wpList_apprs (us := [wantT t q]) (N := w4.heap.size) ((w7.alloc (.cells #[.int .i64 t.kind, .int .i64 q.1, .int .i64 q.2, .int .i64 t.num, .string (bytes t.text)] 36)).alloc (.cells #[.int .i64 t.kind, .int .i64 q.1, .int .i64 q.2, .int .i64 t.num, .string (bytes t.text)] 36)) rfl _ _ rfl rfl (HRW.out.below ((HB7.out.alloc HB7.out.size _).alloc (by have := HB7.out.size; simp; omega) _)) (by have := HBX.out.size; have := HB7.out.size; simp; omega) rfl (by rw [HWT.out]; exact new5 w7 _ _ _ _ _ _ _) (by simp) (by have := HWA.out; simp; omega) ?_; intro v9 w9 hr9 hb9; have HR9 := Lib.hid hr9; have HB9 := Lib.hid hb9; clear hr9 hb9))
                      go_roundg (gk - 1)
                      case measure => have := HK.out; have := HK2.out; omega
                      case rel =>
                        have ha := advs_next q0 HC.out
                        rw [← HQK.out] at ha
                        exact ⟨k + 1, by rw [List.length_append]; have := HK.out; have := HK2.out; omega, by go_num, by rw [ha]; unfold adv; rw [if_pos rfl]; simp, by rw [ha]; unfold adv; rw [if_pos rfl]; simp, by rw [if_neg (by have := HKG.out; omega), ← HQG.out]; exact HR9.out, HBW.out.trans (((HB7.out.alloc HB7.out.size _).alloc (by have := HB7.out.size; simp; omega) _ |>.mono HBX.out.size).trans HB9.out)⟩
                    · have q10 : ((c.toNat : Int) == 10) = false := ne_lit h10 (by rfl)
                      go_wp2_with (first
                        | (go_at_call 9; (with_reducible refine (from_any _ _ _ _ (HR1.out.below HBX.out) (by have := HTL.out; omega)).mono ?_); rintro e w7 ⟨v7, rfl, hr, hb⟩; obtain ⟨a7, c7, rfl, hc7⟩ := hr.form2; obtain ⟨g7, rfl, hg7, y0, y1, y2, y3, y4⟩ := hc7 i t HT.out; have HB7 := Lib.hid hb; clear hb hr hc7 hg7; dsimp only)
                        | (at_builtin; refine wpList_apprs (us := [wantT t q]) (N := w4.heap.size) ((w7.alloc (.cells #[.int .i64 t.kind, .int .i64 q.1, .int .i64 q.2, .int .i64 t.num, .string (bytes t.text)] 36)).alloc (.cells #[.int .i64 t.kind, .int .i64 q.1, .int .i64 q.2, .int .i64 t.num, .string (bytes t.text)] 36)) rfl _ _ rfl rfl (HRW.out.below ((HB7.out.alloc HB7.out.size _).alloc (by have := HB7.out.size; simp; omega) _)) (by have := HBX.out.size; have := HB7.out.size; simp; omega) rfl (by rw [HWT.out]; exact new5 w7 _ _ _ _ _ _ _) (by simp) (by have := HWA.out; simp; omega) ?_; intro v9 w9 hr9 hb9; have HR9 := Lib.hid hr9; have HB9 := Lib.hid hb9; clear hr9 hb9))
                      go_roundg (gk - 1)
                      case measure => have := HK.out; have := HK2.out; omega
                      case rel =>
                        have ha := advs_next q0 HC.out
                        rw [← HQK.out] at ha
                        exact ⟨k + 1, by rw [List.length_append]; have := HK.out; have := HK2.out; omega, by go_num, by rw [ha]; unfold adv; rw [if_neg h10], by rw [ha]; unfold adv; rw [if_neg h10]; simp, by rw [if_neg (by have := HKG.out; omega), ← HQG.out]; exact HR9.out, HBW.out.trans (((HB7.out.alloc HB7.out.size _).alloc (by have := HB7.out.size; simp; omega) _ |>.mono HBX.out.size).trans HB9.out)⟩
                · have j1 : ((k : Int) == ((bytes g).size : Int)) = false := by rw [HBS1.out]; simp only [beq_eq_false_iff_ne]; omega
                  have HRW : Hid (RRow wr w4.heap.size (.slice a12 n12 c12) (if k + 1 ≤ g.length then wa else wa ++ [wantT t (advs q0 g)])) := by
                    have h := HRW0.out
                    by_cases h1 : k ≤ g.length
                    · rw [if_pos h1] at h; rw [if_pos (by omega)]; exact h
                    · rw [if_neg h1] at h; rw [if_neg (by omega)]; exact h
                  clear hkg HRW0
                  by_cases h10 : c = 10
                  · subst h10
                    go_wp2
                    go_roundg (gk - 1)
                    case measure => have := HK.out; have := HK2.out; omega
                    case rel =>
                      have ha := advs_next q0 HC.out
                      rw [← HQK.out] at ha
                      exact ⟨k + 1, by rw [List.length_append]; have := HK.out; have := HK2.out; omega, by go_num, by rw [ha]; unfold adv; rw [if_pos rfl]; simp, by rw [ha]; unfold adv; rw [if_pos rfl]; simp, HRW.out, HBW.out⟩
                  · have q10 : ((c.toNat : Int) == 10) = false := ne_lit h10 (by rfl)
                    go_wp2
                    go_roundg (gk - 1)
                    case measure => have := HK.out; have := HK2.out; omega
                    case rel =>
                      have ha := advs_next q0 HC.out
                      rw [← HQK.out] at ha
                      exact ⟨k + 1, by rw [List.length_append]; have := HK.out; have := HK2.out; omega, by go_num, by rw [ha]; unfold adv; rw [if_neg h10], by rw [ha]; unfold adv; rw [if_neg h10]; simp, HRW.out, HBW.out⟩
              · have k01 : ¬ (k : Int) < ((bytes (g ++ sp)).size : Int) := by have := HBS.out; omega
                have hz : k = g.length + sp.length := by omega
                have HZK := Lib.hid hz
                have HSP0 : Hid (0 < sp.length) := HSP1.out
                have HRZ : Hid (RRow wr w4.heap.size (.slice a12 n12 c12) (wa ++ [wantT t (advs q0 g)])) := by
                  have h := HRW0.out
                  rwa [if_neg (by have := HSP1.out; omega)] at h
                have HQZ : Hid (q = advs (1, 1) (pieces (psT zs ts (i + 1)))) := by
                  show _ = _
                  rw [HPX.out, advs_append, ← HQ0.out, HQK.out, hz, List.take_of_length_le (by rw [List.length_append]; omega)]
                clear hk hk2 hz HRW0
                go_wp2
                go_roundg (gk0 - 1)
                case measure => have := HIG.out; have := HLT1.out; omega
                case rel => exact ⟨i + 1, by have := HLT1.out; omega, by have := HLT1.out; omega, by have := HIG.out; have := HLT1.out; omega, by go_num, by rw [HPX.out]; simp only [← bytes_append], by rw [HQZ.out], by rw [HQZ.out], by rw [HWX.out]; exact HRZ.out, HBX.out⟩
          · have k1 : ¬ (i : Int) < (zs.length : Int) := by omega
            have hgm : g = [32] := by rw [HG.out]; unfold gapT; rw [if_neg hzi]
            have hb32 : bytes g = ⟨#[32]⟩ := by rw [hgm]; rfl
            rw [← hb32] at f0
            clear hzi hgm hb32
            go_wp2_with (go_at_call 8; (with_reducible refine (HSPL.out _).mono ?_); rintro e w5 ⟨rfl, hb⟩; have HB5 := Lib.hid hb; clear hb HSPL; dsimp only)
            try rw [hm']
            go_loopg [10, 11, 12, 17] (g.length + sp.length) (fun gk s10 s11 s12 s17 wi => InLoop w4.heap.size w5 q0 g sp t wa gk s10 s11 s12 s17 wi)
            case atStart => exact ⟨0, by rw [List.length_append]; omega, rfl, rfl, rfl, by simpa using HROW.out.below HB5.out, Below.refl _ _⟩
            case round =>
              obtain ⟨k, hk, rfl, rfl, rfl, hrw, hbw⟩ := hrel
              have HK := Lib.hid hk
              have HBW := Lib.hid hbw
              have HBX : Hid (Below w4.heap.size w4 wr) := HBR.out.trans ((HB5.out.mono HBR.out.size).trans hbw)
              have hq2 := advs_two ((g ++ sp).take k) q0 30000 (by have := HQ.out; have := HSL.out; have := HGLN.out; have := List.length_take_le' k (g ++ sp); rw [List.length_append] at this; omega) (by have := HQ.out; have := HSL.out; have := HGLN.out; have := List.length_take_le' k (g ++ sp); rw [List.length_append] at this; omega) (by have := HSL.out; have := HGLN.out; have := List.length_take_le' k (g ++ sp); rw [List.length_append] at this; omega)
              obtain ⟨q, hqk⟩ : ∃ q, q = advs q0 ((g ++ sp).take k) := ⟨_, rfl⟩
              rw [← hqk] at hq2 ⊢
              have HQK := Lib.hid hqk
              have q1 : (q.1 : Int) ≤ 30000 := by omega
              have q2 : (q.2 : Int) ≤ 30000 := by omega
              obtain ⟨a12, c12, h12, _⟩ := hrw.form2
              generalize hn12 : (if k ≤ g.length then wa else wa ++ [wantT t (advs q0 g)]).length = n12 at h12
              subst h12
              have HRW0 := Lib.hid hrw
              have k00 : (0 : Int) ≤ (k : Int) := by omega
              clear hqk hq2 hbw hrw hn12
              rw [List.length_append] at HK hk
              by_cases hk2 : k < g.length + sp.length
              · have HK2 := Lib.hid hk2
                have k01 : (k : Int) < ((bytes (g ++ sp)).size : Int) := by have := HBS.out; omega
                have k02 : (k : Int) ≤ 11200 := by have := HSL.out; have := HGLN.out; omega
                obtain ⟨c, hc⟩ : ∃ c, (g ++ sp)[k]? = some c := ⟨_, List.getElem?_eq_getElem (by rw [List.length_append]; exact hk2)⟩
                have HC := Lib.hid hc
                have hkb : k < (bytes (g ++ sp)).size := by have := HBS.out; omega
                have hcb : (bytes (g ++ sp))[k]'hkb = c := by
                  have h1 : (bytes (g ++ sp)).data.toList = g ++ sp := by simp [bytes]
                  have := Lib.getD_at (bytes (g ++ sp)) k hkb
                  rw [h1, List.getD_eq_getElem?_getD, hc, Option.getD_some] at this
                  first | exact this | exact this.symm
                clear hc hk hk2
                by_cases hkg : k = g.length
                · have j1 : ((k : Int) == ((bytes g).size : Int)) = true := by rw [HBS1.out, hkg]; simp
                  have HRW : Hid (RRow wr w4.heap.size (.slice a12 n12 c12) wa) := by have h := HRW0.out; rwa [if_pos (by omega)] at h
                  have HQG : Hid (q = advs q0 g) := by rw [HQK.out, hkg, List.take_left' rfl]; exact rfl
                  have HKG := Lib.hid hkg
                  have i3 : (i : Int) < (ts.length : Int) := i1
                  clear hkg HRW0
                  by_cases hk3 : t.kind = 3
                  · have j3 : ((t.kind : Int) == 3) = true := by simp only [beq_iff_eq]; omega
                    have HWT : Hid (wantT t q = ⟨3, q.1, q.2, 0, half⟩) := by unfold wantT; rw [if_pos hk3]; exact rfl
                    clear hk3
                    by_cases h10 : c = 10
                    · subst h10
                      go_upto_region 25 with (first
                        | (go_at_call 9; (with_reducible refine (from_any _ _ _ _ (HR1.out.below HBX.out) (by have := HTL.out; omega)).mono ?_); rintro e w7 ⟨v7, rfl, hr, hb⟩; obtain ⟨a7, c7, rfl, hc7⟩ := hr.form2; obtain ⟨g7, rfl, hg7, y0, y1, y2, y3, y4⟩ := hc7 i t HT.out; have HB7 := Lib.hid hb; clear hb hr hc7 hg7; dsimp only)
                        | (go_at_call 10; (with_reducible refine (word_half_any _).mono ?_); rintro e w8 ⟨rfl, hb⟩; have HB8 := Lib.hid hb; have hbl := (hb.block w7.heap.size (by simp)).trans (heap_alloc_new w7 _); obtain ⟨⟨x0, x1, x2, x3, x4⟩, xf⟩ := bxs5 hbl; have HBL := Lib.hid hbl; clear hb hbl; dsimp only))
                      have zz := five_stored (y0 := .int .i64 3) (y1 := .int .i64 0) (y2 := .int .i64 0) (y3 := .int .i64 0) (y4 := .string (bytes half)) HBL.out
                      have zc := five_stores (Chg.refl [w7.heap.size] w8) (p := w7.heap.size) (.inl (by simp)) (.int .i64 3) (.int .i64 0) (.int .i64 0) (.int .i64 0) (.string (bytes half))
                      generalize (((((w8.setCell _ _).setCell _ _).setCell _ _).setCell _ _).setCell _ _) = wz at zz zc ⊢
                      clear x0 x1 x2 x3 x4 xf HBL
                      obtain ⟨⟨x0, x1, x2, x3, x4⟩, xf⟩ := bxs5 zz
                      have ZZ := Lib.hid zz
                      have ZC := Lib.hid zc
                      clear zz zc
                      go_upto_region 26 with (fail)
                      have zz2 := set_block (o := 2) (u := .int .i64 q.2) (set_block (o := 1) (u := .int .i64 q.1) ZZ.out)
                      have zc2 := (ZC.out.setCell (p := ⟨w7.heap.size, 1, none⟩) (.inl (by simp)) (.int .i64 q.1)).setCell (p := ⟨w7.heap.size, 2, none⟩) (.inl (by simp)) (.int .i64 q.2)
                      generalize ((wz.setCell _ _).setCell _ _) = wy at zz2 zc2 ⊢
                      clear x0 x1 x2 x3 x4 xf ZZ ZC
                      have zz3 : wy.heap[w7.heap.size]? = some (.cells #[.int .i64 3, .int .i64 q.1, .int .i64 q.2, .int .i64 0, .string (bytes half)] 36 (0, 0)) := zz2
                      obtain ⟨⟨x0, x1, x2, x3, x4⟩, xf⟩ := bxs5 zz3
                      have HBY : Hid (Below wr.heap.size wr (wy.alloc (.cells #[.int .i64 3, .int .i64 q.1, .int .i64 q.2, .int .i64 0, .string (bytes half)] 36))) := by
                        have h1 := (HB7.out.alloc HB7.out.size _).trans (HB8.out.mono (by have := HB7.out.size; simp; omega))
                        exact ((h1.trans (zc2.below h1.size (by have := HB7.out.size; simp; omega))).alloc (Nat.le_trans h1.size zc2.size) _)
                      clear zz2 zz3 zc2
                      go_wp2_with (at_builtin; refine wpList_apprs (us := [wantT t q]) (N := w4.heap.size) (wy.alloc (.cells #[.int .i64 3, .int .i64 q.1, .int .i64 q.2, .int .i64 0, .string (bytes half)] 36)) rfl _ _ rfl rfl (HRW.out.below HBY.out) (by have := HBX.out.size; have := HBY.out.size; omega) rfl (by rw [HWT.out]; exact new5a wy _ _ _ _ _ _) (by simp) (by have := HWA.out; simp; omega) ?_; intro v9 w9 hr9 hb9; have HR9 := Lib.hid hr9; have HB9 := Lib.hid hb9; clear hr9 hb9)
                      go_roundg (gk - 1)
                      case measure => have := HK.out; have := HK2.out; omega
                      case rel =>
                        have ha := advs_next q0 HC.out
                        rw [← HQK.out] at ha
                        exact ⟨k + 1, by rw [List.length_append]; have := HK.out; have := HK2.out; omega, by go_num, by rw [ha]; unfold adv; rw [if_pos rfl]; simp, by rw [ha]; unfold adv; rw [if_pos rfl]; simp, by rw [if_neg (by have := HKG.out; omega), ← HQG.out]; exact HR9.out, HBW.out.trans ((HBY.out.mono HBX.out.size).trans HB9.out)⟩
                    · have q10 : ((c.toNat : Int) == 10) = false := ne_lit h10 (by rfl)
                      go_upto_region 25 with (first
                        | (go_at_call 9; (with_reducible refine (from_any _ _ _ _ (HR1.out.below HBX.out) (by have := HTL.out; omega)).mono ?_); rintro e w7 ⟨v7, rfl, hr, hb⟩; obtain ⟨a7, c7, rfl, hc7⟩ := hr.form2; obtain ⟨g7, rfl, hg7, y0, y1, y2, y3, y4⟩ := hc7 i t HT.out; have HB7 := Lib.hid hb; clear hb hr hc7 hg7; dsimp only)
                        | (go_at_call 10; (with_reducible refine (word_half_any _).mono ?_); rintro e w8 ⟨rfl, hb⟩; have HB8 := Lib.hid hb; have hbl := (hb.block w7.heap.size (by simp)).trans (heap_alloc_new w7 _); obtain ⟨⟨x0, x1, x2, x3, x4⟩, xf⟩ := bxs5 hbl; have HBL := Lib.hid hbl; clear hb hbl; dsimp only))
                      have zz := five_stored (y0 := .int .i64 3) (y1 := .int .i64 0) (y2 := .int .i64 0) (y3 := .int .i64 0) (y4 := .string (bytes half)) HBL.out
                      have zc := five_stores (Chg.refl [w7.heap.size] w8) (p := w7.heap.size) (.inl (by simp)) (.int .i64 3) (.int .i64 0) (.int .i64 0) (.int .i64 0) (.string (bytes half))
                      generalize (((((w8.setCell _ _).setCell _ _).setCell _ _).setCell _ _).setCell _ _) = wz at zz zc ⊢
                      clear x0 x1 x2 x3 x4 xf HBL
                      obtain ⟨⟨x0, x1, x2, x3, x4⟩, xf⟩ := bxs5 zz
                      have ZZ := Lib.hid zz
                      have ZC := Lib.hid zc
                      clear zz zc
                      go_upto_region 26 with (fail)
                      have zz2 := set_block (o := 2) (u := .int .i64 q.2) (set_block (o := 1) (u := .int .i64 q.1) ZZ.out)
                      have zc2 := (ZC.out.setCell (p := ⟨w7.heap.size, 1, none⟩) (.inl (by simp)) (.int .i64 q.1)).setCell (p := ⟨w7.heap.size, 2, none⟩) (.inl (by simp)) (.int .i64 q.2)
                      generalize ((wz.setCell _ _).setCell _ _) = wy at zz2 zc2 ⊢
                      clear x0 x1 x2 x3 x4 xf ZZ ZC
                      have zz3 : wy.heap[w7.heap.size]? = some (.cells #[.int .i64 3, .int .i64 q.1, .int .i64 q.2, .int .i64 0, .string (bytes half)] 36 (0, 0)) := zz2
                      obtain ⟨⟨x0, x1, x2, x3, x4⟩, xf⟩ := bxs5 zz3
                      have HBY : Hid (Below wr.heap.size wr (wy.alloc (.cells #[.int .i64 3, .int .i64 q.1, .int .i64 q.2, .int .i64 0, .string (bytes half)] 36))) := by
                        have h1 := (HB7.out.alloc HB7.out.size _).trans (HB8.out.mono (by have := HB7.out.size; simp; omega))
                        exact ((h1.trans (zc2.below h1.size (by have := HB7.out.size; simp; omega))).alloc (Nat.le_trans h1.size zc2.size) _)
                      clear zz2 zz3 zc2
                      go_wp2_with (at_builtin; refine wpList_apprs (us := [wantT t q]) (N := w4.heap.size) (wy.alloc (.cells #[.int .i64 3, .int .i64 q.1, .int .i64 q.2, .int .i64 0, .string (bytes half)] 36)) rfl _ _ rfl rfl (HRW.out.below HBY.out) (by have := HBX.out.size; have := HBY.out.size; omega) rfl (by rw [HWT.out]; exact new5a wy _ _ _ _ _ _) (by simp) (by have := HWA.out; simp; omega) ?_; intro v9 w9 hr9 hb9; have HR9 := Lib.hid hr9; have HB9 := Lib.hid hb9; clear hr9 hb9)
                      go_roundg (gk - 1)
                      case measure => have := HK.out; have := HK2.out; omega
                      case rel =>
                        have ha := advs_next q0 HC.out
                        rw [← HQK.out] at ha
                        exact ⟨k + 1, by rw [List.length_append]; have := HK.out; have := HK2.out; omega, by go_num, by rw [ha]; unfold adv; rw [if_neg h10], by rw [ha]; unfold adv; rw [if_neg h10]; simp, by rw [if_neg (by have := HKG.out; omega), ← HQG.out]; exact HR9.out, HBW.out.trans ((HBY.out.mono HBX.out.size).trans HB9.out)⟩
                  · have j3 : ((t.kind : Int) == 3) = false := by simp only [beq_eq_false_iff_ne]; omega
                    have HWT : Hid (wantT t q = ⟨t.kind, q.1, q.2, t.num, t.text⟩) := by unfold wantT; rw [if_neg hk3]; exact rfl
                    clear hk3
                    by_cases h10 : c = 10
                    · subst h10
                      go_wp2_with (first
                        | (go_at_call 9; (with_reducible refine (from_any _ _ _ _ (HR1.out.below HBX.out) (by have := HTL.out; omega)).mono ?_); rintro e w7 ⟨v7, rfl, hr, hb⟩; obtain ⟨a7, c7, rfl, hc7⟩ := hr.form2; obtain ⟨g7, rfl, hg7, y0, y1, y2, y3, y4⟩ := hc7 i t HT.out; have HB7 := Lib.hid hb; clear hb hr hc7 hg7; dsimp only)
                        | (at_builtin; refine wpList_apprs (us := [wantT t q]) (N := w4.heap.size) ((w7.alloc (.cells #[.int .i64 t.kind, .int .i64 q.1, .int .i64 q.2, .int .i64 t.num, .string (bytes t.text)] 36)).alloc (.cells #[.int .i64 t.kind, .int .i64 q.1, .int .i64 q.2, .int .i64 t.num, .string (bytes t.text)] 36)) rfl _ _ rfl rfl (HRW.out.below ((HB7.out.alloc HB7.out.size _).alloc (by have := HB7.out.size; simp; omega) _)) (by have := HBX.out.size; have := HB7.out.size; simp; omega) rfl (by rw [HWT.out]; exact new5 w7 _ _ _ _ _ _ _) (by simp) (by have := HWA.out; simp; omega) ?_; intro v9 w9 hr9 hb9; have HR9 := Lib.hid hr9; have HB9 := Lib.hid hb9; clear hr9 hb9))
                      go_roundg (gk - 1)
                      case measure => have := HK.out; have := HK2.out; omega
                      case rel =>
                        have ha := advs_next q0 HC.out
                        rw [← HQK.out] at ha
                        exact ⟨k + 1, by rw [List.length_append]; have := HK.out; have := HK2.out; omega, by go_num, by rw [ha]; unfold adv; rw [if_pos rfl]; simp, by rw [ha]; unfold adv; rw [if_pos rfl]; simp, by rw [if_neg (by have := HKG.out; omega), ← HQG.out]; exact HR9.out, HBW.out.trans (((HB7.out.alloc HB7.out.size _).alloc (by have := HB7.out.size; simp; omega) _ |>.mono HBX.out.size).trans HB9.out)⟩
                    · have q10 : ((c.toNat : Int) == 10) = false := ne_lit h10 (by rfl)
                      go_wp2_with (first
                        | (go_at_call 9; (with_reducible refine (from_any _ _ _ _ (HR1.out.below HBX.out) (by have := HTL.out; omega)).mono ?_); rintro e w7 ⟨v7, rfl, hr, hb⟩; obtain ⟨a7, c7, rfl, hc7⟩ := hr.form2; obtain ⟨g7, rfl, hg7, y0, y1, y2, y3, y4⟩ := hc7 i t HT.out; have HB7 := Lib.hid hb; clear hb hr hc7 hg7; dsimp only)
                        | (at_builtin; refine wpList_apprs (us := [wantT t q]) (N := w4.heap.size) ((w7.alloc (.cells #[.int .i64 t.kind, .int .i64 q.1, .int .i64 q.2, .int .i64 t.num, .string (bytes t.text)] 36)).alloc (.cells #[.int .i64 t.kind, .int .i64 q.1, .int .i64 q.2, .int .i64 t.num, .string (bytes t.text)] 36)) rfl _ _ rfl rfl (HRW.out.below ((HB7.out.alloc HB7.out.size _).alloc (by have := HB7.out.size; simp; omega) _)) (by have := HBX.out.size; have := HB7.out.size; simp; omega) rfl (by rw [HWT.out]; exact new5 w7 _ _ _ _ _ _ _) (by simp) (by have := HWA.out; simp; omega) ?_; intro v9 w9 hr9 hb9; have HR9 := Lib.hid hr9; have HB9 := Lib.hid hb9; clear hr9 hb9))
                      go_roundg (gk - 1)
                      case measure => have := HK.out; have := HK2.out; omega
                      case rel =>
                        have ha := advs_next q0 HC.out
                        rw [← HQK.out] at ha
                        exact ⟨k + 1, by rw [List.length_append]; have := HK.out; have := HK2.out; omega, by go_num, by rw [ha]; unfold adv; rw [if_neg h10], by rw [ha]; unfold adv; rw [if_neg h10]; simp, by rw [if_neg (by have := HKG.out; omega), ← HQG.out]; exact HR9.out, HBW.out.trans (((HB7.out.alloc HB7.out.size _).alloc (by have := HB7.out.size; simp; omega) _ |>.mono HBX.out.size).trans HB9.out)⟩
                · have j1 : ((k : Int) == ((bytes g).size : Int)) = false := by rw [HBS1.out]; simp only [beq_eq_false_iff_ne]; omega
                  have HRW : Hid (RRow wr w4.heap.size (.slice a12 n12 c12) (if k + 1 ≤ g.length then wa else wa ++ [wantT t (advs q0 g)])) := by
                    have h := HRW0.out
                    by_cases h1 : k ≤ g.length
                    · rw [if_pos h1] at h; rw [if_pos (by omega)]; exact h
                    · rw [if_neg h1] at h; rw [if_neg (by omega)]; exact h
                  clear hkg HRW0
                  by_cases h10 : c = 10
                  · subst h10
                    go_wp2
                    go_roundg (gk - 1)
                    case measure => have := HK.out; have := HK2.out; omega
                    case rel =>
                      have ha := advs_next q0 HC.out
                      rw [← HQK.out] at ha
                      exact ⟨k + 1, by rw [List.length_append]; have := HK.out; have := HK2.out; omega, by go_num, by rw [ha]; unfold adv; rw [if_pos rfl]; simp, by rw [ha]; unfold adv; rw [if_pos rfl]; simp, HRW.out, HBW.out⟩
                  · have q10 : ((c.toNat : Int) == 10) = false := ne_lit h10 (by rfl)
                    go_wp2
                    go_roundg (gk - 1)
                    case measure => have := HK.out; have := HK2.out; omega
                    case rel =>
                      have ha := advs_next q0 HC.out
                      rw [← HQK.out] at ha
                      exact ⟨k + 1, by rw [List.length_append]; have := HK.out; have := HK2.out; omega, by go_num, by rw [ha]; unfold adv; rw [if_neg h10], by rw [ha]; unfold adv; rw [if_neg h10]; simp, HRW.out, HBW.out⟩
              · have k01 : ¬ (k : Int) < ((bytes (g ++ sp)).size : Int) := by have := HBS.out; omega
                have hz : k = g.length + sp.length := by omega
                have HZK := Lib.hid hz
                have HSP0 : Hid (0 < sp.length) := HSP1.out
                have HRZ : Hid (RRow wr w4.heap.size (.slice a12 n12 c12) (wa ++ [wantT t (advs q0 g)])) := by
                  have h := HRW0.out
                  rwa [if_neg (by have := HSP1.out; omega)] at h
                have HQZ : Hid (q = advs (1, 1) (pieces (psT zs ts (i + 1)))) := by
                  show _ = _
                  rw [HPX.out, advs_append, ← HQ0.out, HQK.out, hz, List.take_of_length_le (by rw [List.length_append]; omega)]
                clear hk hk2 hz HRW0
                go_wp2
                go_roundg (gk0 - 1)
                case measure => have := HIG.out; have := HLT1.out; omega
                case rel => exact ⟨i + 1, by have := HLT1.out; omega, by have := HLT1.out; omega, by have := HIG.out; have := HLT1.out; omega, by go_num, by rw [HPX.out]; simp only [← bytes_append], by rw [HQZ.out], by rw [HQZ.out], by rw [HWX.out]; exact HRZ.out, HBX.out⟩
        · have hi : i = min ts.length 100 := by omega
          have d9 : ¬ ((i : Int) < (ts.length : Int)) ∨ ¬ ((i : Int) < 100) := by omega
          have HSZ := Lib.hid (HS3.out i hi2 hi1)
          have hc2 : ¬ 9223372036854775807 < (bytes (pieces (psT zs ts i))).size + 2 := by rw [bytes_size]; omega
          have hwl : (wants (psT zs ts i) (1, 1)).length ≤ 100 := by
            have h : ∀ (l : List (List UInt8 × Tok)) (q : Pos), (wants l q).length = l.length := fun l => by
              induction l with
              | nil => intro q; rfl
              | cons x l ih => intro q; obtain ⟨g, t⟩ := x; simp [wants, ih]
            rw [h]
            simp [psT]; omega
          have HWL := Lib.hid hwl
          have HBW := Lib.hid (HB4.out.trans (HBR.out.mono HB4.out.size))
          generalize bytes (pieces (psT zs ts i)) = PP at *
          generalize wants (psT zs ts i) (1, 1) = ww at *
          clear hi hrow hb hpl hwl higk hi1 hi2 hlt HS3 HI1 HI2 HIG
          rcases d9 with d9 | d9
          · go_wp2_with (first
              | (go_at_call 7; (with_reducible refine (HSZ.out _ HBW.out).mono ?_); rintro e w5 ⟨vo, rfl, hr, hb⟩; have HR5 := Lib.hid (hr.below ((Below.refl _ _).alloc (Nat.le_refl _) (.cells #[.int .i64 0, .int .i64 0] 26))); have HB5 := Lib.hid ((HBW.out.trans (hb.mono HBW.out.size)).alloc (HBW.out.trans (hb.mono HBW.out.size)).size (.cells #[.int .i64 0, .int .i64 0] 26)); replace HROW := Lib.hid ((HROW.out.below hb).below ((Below.refl _ _).alloc (Nat.le_refl _) (.cells #[.int .i64 0, .int .i64 0] 26))); clear hr hb; dsimp only)
              | (go_at_call 9; (with_reducible refine (from_any _ _ _ _ HR5.out (by have := HWL.out; omega)).mono ?_); rintro e w8 ⟨v8, rfl, hr, hb⟩; have HR8 := Lib.hid hr; replace HROW := Lib.hid (HROW.out.below hb); replace HB5 := Lib.hid (HB5.out.trans (hb.mono HB5.out.size)); clear hb hr; dsimp only)
              | (go_at_call 11; (with_reducible refine (same_any _ _ _ _ _ _ HR8.out HROW.out (by have := HWL.out; omega)).mono ?_); rintro e w9 ⟨rfl, hb⟩; replace HB5 := Lib.hid (HB5.out.trans (hb.mono HB5.out.size)); clear hb; dsimp only))
            go_ret
            exact ⟨rfl, HB5.out⟩
          · by_cases d8 : (i : Int) < (ts.length : Int)
            · go_wp2_with (first
                | (go_at_call 7; (with_reducible refine (HSZ.out _ HBW.out).mono ?_); rintro e w5 ⟨vo, rfl, hr, hb⟩; have HR5 := Lib.hid (hr.below ((Below.refl _ _).alloc (Nat.le_refl _) (.cells #[.int .i64 0, .int .i64 0] 26))); have HB5 := Lib.hid ((HBW.out.trans (hb.mono HBW.out.size)).alloc (HBW.out.trans (hb.mono HBW.out.size)).size (.cells #[.int .i64 0, .int .i64 0] 26)); replace HROW := Lib.hid ((HROW.out.below hb).below ((Below.refl _ _).alloc (Nat.le_refl _) (.cells #[.int .i64 0, .int .i64 0] 26))); clear hr hb; dsimp only)
                | (go_at_call 9; (with_reducible refine (from_any _ _ _ _ HR5.out (by have := HWL.out; omega)).mono ?_); rintro e w8 ⟨v8, rfl, hr, hb⟩; have HR8 := Lib.hid hr; replace HROW := Lib.hid (HROW.out.below hb); replace HB5 := Lib.hid (HB5.out.trans (hb.mono HB5.out.size)); clear hb hr; dsimp only)
                | (go_at_call 11; (with_reducible refine (same_any _ _ _ _ _ _ HR8.out HROW.out (by have := HWL.out; omega)).mono ?_); rintro e w9 ⟨rfl, hb⟩; replace HB5 := Lib.hid (HB5.out.trans (hb.mono HB5.out.size)); clear hb; dsimp only))
              go_ret
              exact ⟨rfl, HB5.out⟩
            · go_wp2_with (first
                | (go_at_call 7; (with_reducible refine (HSZ.out _ HBW.out).mono ?_); rintro e w5 ⟨vo, rfl, hr, hb⟩; have HR5 := Lib.hid (hr.below ((Below.refl _ _).alloc (Nat.le_refl _) (.cells #[.int .i64 0, .int .i64 0] 26))); have HB5 := Lib.hid ((HBW.out.trans (hb.mono HBW.out.size)).alloc (HBW.out.trans (hb.mono HBW.out.size)).size (.cells #[.int .i64 0, .int .i64 0] 26)); replace HROW := Lib.hid ((HROW.out.below hb).below ((Below.refl _ _).alloc (Nat.le_refl _) (.cells #[.int .i64 0, .int .i64 0] 26))); clear hr hb; dsimp only)
                | (go_at_call 9; (with_reducible refine (from_any _ _ _ _ HR5.out (by have := HWL.out; omega)).mono ?_); rintro e w8 ⟨v8, rfl, hr, hb⟩; have HR8 := Lib.hid hr; replace HROW := Lib.hid (HROW.out.below hb); replace HB5 := Lib.hid (HB5.out.trans (hb.mono HB5.out.size)); clear hb hr; dsimp only)
                | (go_at_call 11; (with_reducible refine (same_any _ _ _ _ _ _ HR8.out HROW.out (by have := HWL.out; omega)).mono ?_); rintro e w9 ⟨rfl, hb⟩; replace HB5 := Lib.hid (HB5.out.trans (hb.mono HB5.out.size)); clear hb; dsimp only))
              go_ret
              exact ⟨rfl, HB5.out⟩
end Go.Proofs.YtlailomhgipppaaGreatDoor
