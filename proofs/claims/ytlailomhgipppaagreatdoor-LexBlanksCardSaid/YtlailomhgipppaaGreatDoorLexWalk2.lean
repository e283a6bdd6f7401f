/- Layer 10: what a word is. -/
import Derived.Test.YtlailomhgipppaaGreatDoorLexWalk1
import Derived.Test.YtlailomhgipppaaGreatDoorRefFl
namespace Go.Proofs.YtlailomhgipppaaGreatDoor
open Go.RowKit Lx
set_option linter.unusedVariables false
set_option linter.unusedSimpArgs false

def tokV (t : Tok) : Value := .agg #[.int .i64 t.kind, .int .i64 t.line, .int .i64 t.col, .int .i64 t.num, .string (bytes t.text)]
def posV (q : Pos) : Value := .agg #[.int .i64 q.1, .int .i64 q.2]
/-- 'panic(trouble{q})'. -/
def thrown (q : Pos) : Ending := .panicked [{ v := .iface 46 (posV q), recovered := false }]
def wordEnd (l : List UInt8) (q : Pos) : Ending := match wordT l with
  | some (k, n, t) => .returned (tokV ⟨k, q.1, q.2, n, t⟩)
  | none => thrown q
theorem set_g (c : UInt8) : ([65, 66, 67, 68, 69, 70, 71, 72, 73, 74, 75, 76, 77, 78, 79, 80, 81, 82, 83, 84, 85, 86, 87, 88, 89, 90] : List UInt8).contains c = isGreat c := by
  have : ∀ k : Fin 256, ([65, 66, 67, 68, 69, 70, 71, 72, 73, 74, 75, 76, 77, 78, 79, 80, 81, 82, 83, 84, 85, 86, 87, 88, 89, 90] : List UInt8).contains (UInt8.ofNat k.val) = isGreat (UInt8.ofNat k.val) := by decide +kernel
  have h := this ⟨c.toNat, c.toNat_lt⟩
  simpa using h
theorem set_a (c : UInt8) : ([65, 66, 67, 68, 69, 70, 71, 72, 73, 74, 75, 76, 77, 78, 79, 80, 81, 82, 83, 84, 85, 86, 87, 88, 89, 90, 97, 98, 99, 100, 101, 102, 103, 104, 105, 106, 107, 108, 109, 110, 111, 112, 113, 114, 115, 116, 117, 118, 119, 120, 121, 122, 48, 49, 50, 51, 52, 53, 54, 55, 56, 57] : List UInt8).contains c = inCon c := by
  have : ∀ k : Fin 256, ([65, 66, 67, 68, 69, 70, 71, 72, 73, 74, 75, 76, 77, 78, 79, 80, 81, 82, 83, 84, 85, 86, 87, 88, 89, 90, 97, 98, 99, 100, 101, 102, 103, 104, 105, 106, 107, 108, 109, 110, 111, 112, 113, 114, 115, 116, 117, 118, 119, 120, 121, 122, 48, 49, 50, 51, 52, 53, 54, 55, 56, 57] : List UInt8).contains (UInt8.ofNat k.val) = inCon (UInt8.ofNat k.val) := by decide +kernel
  have h := this ⟨c.toNat, c.toNat_lt⟩
  simpa using h
theorem set_s (c : UInt8) : ([97, 98, 99, 100, 101, 102, 103, 104, 105, 106, 107, 108, 109, 110, 111, 112, 113, 114, 115, 116, 117, 118, 119, 120, 121, 122, 39, 43, 42, 47, 60, 62, 61, 33, 63, 95, 46, 45] : List UInt8).contains c = (fun c => isSmall c || isSign c) c := by
  have : ∀ k : Fin 256, ([97, 98, 99, 100, 101, 102, 103, 104, 105, 106, 107, 108, 109, 110, 111, 112, 113, 114, 115, 116, 117, 118, 119, 120, 121, 122, 39, 43, 42, 47, 60, 62, 61, 33, 63, 95, 46, 45] : List UInt8).contains (UInt8.ofNat k.val) = (fun c => isSmall c || isSign c) (UInt8.ofNat k.val) := by decide +kernel
  have h := this ⟨c.toNat, c.toNat_lt⟩
  simpa using h
theorem set_n (c : UInt8) : ([65, 66, 67, 68, 69, 70, 71, 72, 73, 74, 75, 76, 77, 78, 79, 80, 81, 82, 83, 84, 85, 86, 87, 88, 89, 90, 97, 98, 99, 100, 101, 102, 103, 104, 105, 106, 107, 108, 109, 110, 111, 112, 113, 114, 115, 116, 117, 118, 119, 120, 121, 122, 48, 49, 50, 51, 52, 53, 54, 55, 56, 57, 39, 43, 42, 47, 60, 62, 61, 33, 63, 95, 46, 45] : List UInt8).contains c = inName c := by
  have : ∀ k : Fin 256, ([65, 66, 67, 68, 69, 70, 71, 72, 73, 74, 75, 76, 77, 78, 79, 80, 81, 82, 83, 84, 85, 86, 87, 88, 89, 90, 97, 98, 99, 100, 101, 102, 103, 104, 105, 106, 107, 108, 109, 110, 111, 112, 113, 114, 115, 116, 117, 118, 119, 120, 121, 122, 48, 49, 50, 51, 52, 53, 54, 55, 56, 57, 39, 43, 42, 47, 60, 62, 61, 33, 63, 95, 46, 45] : List UInt8).contains (UInt8.ofNat k.val) = inName (UInt8.ofNat k.val) := by decide +kernel
  have h := this ⟨c.toNat, c.toNat_lt⟩
  simpa using h
theorem word_rest {l : List UInt8} (h : (readF l).2 ≠ 0) (h2 : (floatT l).2 ≠ 0) : wordT l = if decide (40 < l.length) || (!(unsignedT l).isEmpty && (unsignedT l).all isDig) then none
  else if conW l then some (6, 0, l) else if nameW l then some (5, 0, l) else none := by
  unfold wordT
  rw [if_neg h, if_neg h2]
theorem signed2_lt {neg : Bool} {R : Nat} (h : R ≤ 9218868437227405312) : signed2 neg R < 18446744073709551616 := by
  unfold signed2
  split <;> omega
theorem floatT_lt (l : List UInt8) : (floatT l).1 < 18446744073709551616 := by
  cases hc : (unsignedT l).contains 46 with
  | false => unfold floatT; rw [hc, Bool.false_and, if_neg (by simp)]; omega
  | true =>
    cases hd : (digs (cutA (unsignedT l)) && digs (cutB (unsignedT l))) with
    | false => unfold floatT; rw [hc, hd, Bool.true_and, if_neg (by simp)]; omega
    | true =>
      by_cases h : 15 < (cutA (unsignedT l)).length + (cutB (unsignedT l)).length
      · have e : floatT l = (0, 4) := by unfold floatT; rw [hc, hd, Bool.true_and, if_pos rfl, if_pos h]
        rw [e]; omega
      · have e : floatT l = (signed2 (signB l) (quotR (dval 0 (cutA (unsignedT l) ++ cutB (unsignedT l))) (cutB (unsignedT l)).length), 0) := by unfold floatT; rw [hc, hd, Bool.true_and, if_pos rfl, if_neg h]
        rw [e]
        unfold digs at hd
        simp only [Bool.and_eq_true] at hd
        have h3 := dval15 (cutA (unsignedT l) ++ cutB (unsignedT l)) (by rw [List.all_append, hd.1.2, hd.2.2]; rfl) (by rw [List.length_append]; omega)
        exact signed2_lt (quotR_facts (by omega) (by omega)).1
/-- The two boxes of a call: a place, and the token to be. -/
structure WB (w0 : World) (b1 b2 : Nat) (q : Pos) (W : World) : Prop where
  below : Below w0.heap.size w0 W
  h1 : W.heap[b1]? = some (.cells #[.int .i64 q.1, .int .i64 q.2] 26 (0, 0))
  h2 : W.heap[b2]? = some (.cells #[.int .i64 0, .int .i64 0, .int .i64 0, .int .i64 0, .string ⟨#[]⟩] 35 (0, 0))
  le : w0.heap.size ≤ b2
theorem WB.later {w0 W W' : World} {b1 b2 : Nat} {q : Pos} (h : WB w0 b1 b2 q W) (hb : Below W.heap.size W W') : WB w0 b1 b2 q W' :=
  ⟨h.below.trans (hb.mono h.below.size), (hb.block b1 (lt_of_block h.h1)).trans h.h1, (hb.block b2 (lt_of_block h.h2)).trans h.h2, h.le⟩
theorem WB.start (w : World) (q : Pos) : WB w w.heap.size (w.heap.size + 1) q ((w.alloc (.cells #[.int .i64 q.1, .int .i64 q.2] 26)).alloc (.cells #[.int .i64 0, .int .i64 0, .int .i64 0, .int .i64 0, .string ⟨#[]⟩] 35)) := by
  refine ⟨((Below.refl _ _).alloc (Nat.le_refl _) _).alloc (by simp) _, ?_, ?_, by omega⟩
  · rw [heap_alloc_old _ _ (by simp)]
    exact heap_alloc_new w _
  · have := heap_alloc_new (w.alloc (.cells #[.int .i64 q.1, .int .i64 q.2] 26)) (.cells #[.int .i64 0, .int .i64 0, .int .i64 0, .int .i64 0, .string ⟨#[]⟩] 35)
    rwa [World.size_alloc] at this
theorem WB.cells {w0 W : World} {b1 b2 : Nat} {q : Pos} (h : WB w0 b1 b2 q W) : W.cell? ⟨b1, 0, none⟩ = some (.int .i64 q.1) ∧ W.cell? ⟨b1, 1, none⟩ = some (.int .i64 q.2) ∧ W.cell? ⟨b2, 0, none⟩ = some (.int .i64 0) ∧ W.cell? ⟨b2, 1, none⟩ = some (.int .i64 0) ∧ W.cell? ⟨b2, 2, none⟩ = some (.int .i64 0) ∧ W.cell? ⟨b2, 3, none⟩ = some (.int .i64 0) ∧ W.cell? ⟨b2, 4, none⟩ = some (.string ⟨#[]⟩) :=
  ⟨by simp [World.cell?, h.h1], by simp [World.cell?, h.h1], by simp [World.cell?, h.h2], by simp [World.cell?, h.h2], by simp [World.cell?, h.h2], by simp [World.cell?, h.h2], by simp [World.cell?, h.h2]⟩
theorem WB.fr {w0 W : World} {b1 b2 : Nat} {q : Pos} (h : WB w0 b1 b2 q W) (k : Nat) : W.frozen? ⟨b2, k, none⟩ = false := by simp [World.frozen?, h.h2]
theorem tok_ret {w0 W : World} {b1 b2 : Nat} {q : Pos} {y0 y1 y2 y3 y4 : Value} (h : WB w0 b1 b2 q W) :
    (((((W.setCell ⟨b2, 0, none⟩ y0).setCell ⟨b2, 1, none⟩ y1).setCell ⟨b2, 2, none⟩ y2).setCell ⟨b2, 3, none⟩ y3).setCell ⟨b2, 4, none⟩ y4).heap[b2]? = some (.cells #[y0, y1, y2, y3, y4] 35 (0, 0)) ∧
    Below w0.heap.size w0 (((((W.setCell ⟨b2, 0, none⟩ y0).setCell ⟨b2, 1, none⟩ y1).setCell ⟨b2, 2, none⟩ y2).setCell ⟨b2, 3, none⟩ y3).setCell ⟨b2, 4, none⟩ y4) := by
  refine ⟨by rw [set_block (set_block (set_block (set_block (set_block h.h2))))]; rfl, ?_⟩
  have hc : Chg [b2] W (((((W.setCell ⟨b2, 0, none⟩ y0).setCell ⟨b2, 1, none⟩ y1).setCell ⟨b2, 2, none⟩ y2).setCell ⟨b2, 3, none⟩ y3).setCell ⟨b2, 4, none⟩ y4) :=
    (((((Chg.refl [b2] W).setCell (p := ⟨b2, 0, none⟩) (.inl (by simp)) _).setCell (p := ⟨b2, 1, none⟩) (.inl (by simp)) _).setCell (p := ⟨b2, 2, none⟩) (.inl (by simp)) _).setCell (p := ⟨b2, 3, none⟩) (.inl (by simp)) _).setCell (p := ⟨b2, 4, none⟩) (.inl (by simp)) _
  have := h.le
  exact h.below.trans (hc.below h.below.size (fun k hk => by simp at hk; omega))
theorem box5 {W : World} {b : Nat} {y0 y1 y2 y3 y4 : Value} {t : TypeId} (h : W.heap[b]? = some (.cells #[y0, y1, y2, y3, y4] t (0, 0))) : W.cell? ⟨b, 0, none⟩ = some y0 ∧ W.cell? ⟨b, 1, none⟩ = some y1 ∧ W.cell? ⟨b, 2, none⟩ = some y2 ∧ W.cell? ⟨b, 3, none⟩ = some y3 ∧ W.cell? ⟨b, 4, none⟩ = some y4 :=
  ⟨by simp [World.cell?, h], by simp [World.cell?, h], by simp [World.cell?, h], by simp [World.cell?, h], by simp [World.cell?, h]⟩
/-- A word that is no number, by what is asked of it in turn. -/
def pick (big w0 dg g1 g2 n1 n2 : Bool) (s : ByteArray) (q : Pos) : Ending :=
  if big || (!w0 && dg) then thrown q else if g1 && g2 then .returned (.agg #[.int .i64 6, .int .i64 q.1, .int .i64 q.2, .int .i64 0, .string s]) else if n1 && n2 then .returned (.agg #[.int .i64 5, .int .i64 q.1, .int .i64 q.2, .int .i64 0, .string s]) else thrown q
theorem pick_eq {s : ByteArray} {c : UInt8} {r : List UInt8} (hl : s.data.toList = c :: r) (q : Pos) (h : (readF s.data.toList).2 ≠ 0) (h2 : (floatT s.data.toList).2 ≠ 0) :
    wordEnd s.data.toList q = pick (decide (40 < s.data.toList.length)) (unsignedT s.data.toList).isEmpty ((unsignedT s.data.toList).all isDig) (isGreat c) (s.data.toList.all inCon) (isSmall c || isSign c) (s.data.toList.all inName) s q := by
  have hb : bytes s.data.toList = s := by simp [bytes]
  unfold wordEnd
  rw [word_rest h h2]
  unfold pick
  have e1 : conW s.data.toList = (isGreat c && s.data.toList.all inCon) := by rw [hl]; rfl
  have e2 : nameW s.data.toList = ((isSmall c || isSign c) && s.data.toList.all inName) := by rw [hl]; rfl
  rw [e1, e2]
  split
  · rename_i k n t he
    split at he
    · cases he
    · rename_i h1
      rw [if_neg h1]
      split at he
      · rename_i h3; cases he; rw [if_pos h3]; unfold tokV; rw [hb]; rfl
      · rename_i h3
        rw [if_neg h3]
        split at he
        · rename_i h4; cases he; rw [if_pos h4]; unfold tokV; rw [hb]; rfl
        · cases he
  · rename_i he
    split at he
    · rename_i h1; rw [if_pos h1]
    · rename_i h1
      rw [if_neg h1]
      split at he
      · cases he
      · rename_i h3
        rw [if_neg h3]
        split at he
        · cases he
        · rename_i h4; rw [if_neg h4]
set_option maxRecDepth 100000 in
set_option maxHeartbeats 8000000 in
theorem word_any (s : ByteArray) (hs : s.size ≤ 1000000) (hne : s.data.toList ≠ []) (q : Pos) (w : World) (hT : FTab w) (hE : ErrVar w) :
    Calls Tryz.prog 25 #[.string s, posV q] w fun e w' => e = wordEnd s.data.toList q ∧ Below w.heap.size w w' := by
  have hsz := Lib.size_eq s
  have HRD : Hid (∀ W, Below w.heap.size w W → Calls Tryz.prog 29 #[.string s] W fun e w' => e = .returned (.tuple #[.int .i64 (readF s.data.toList).1, .int .i64 (readF s.data.toList).2]) ∧ Below W.heap.size W w') := fun W hW => numRead_any s hs W (hE.below hW)
  have HFL : Hid (∀ W, Below w.heap.size w W → Calls Tryz.prog 30 #[.string s] W fun e w' => e = .returned (.tuple #[.int .u64 ((floatT s.data.toList).1 : Int), .int .i64 (floatT s.data.toList).2]) ∧ Below W.heap.size W w') := fun W hW => readFl_any s hs W (hT.below hW)
  have HW := Lib.hid (WB.start w q)
  clear hT hE
  by_cases hr : (readF s.data.toList).2 = 0
  · have he : wordEnd s.data.toList q = .returned (tokV ⟨2, q.1, q.2, (readF s.data.toList).1, []⟩) := by unfold wordEnd wordT; rw [if_pos hr]
    rw [he]
    rw [hr] at HRD
    generalize (readF s.data.toList).1 = x at HRD ⊢
    unfold posV tokV
    clear he hr HFL hsz hne
    go_enter Tryz.func25, Tryz.ntmps25
    go_wp2_with
      (first
        | (go_at_call 29; (with_reducible refine (HRD.out _ HW.out.below).mono ?_); rintro e w_ ⟨rfl, hb⟩; replace HW := Lib.hid (HW.out.later hb); clear hb HRD; obtain ⟨y0, y1, z0, z1, z2, z3, z4⟩ := HW.out.cells; have f0 := HW.out.fr 0; have f1 := HW.out.fr 1; have f2 := HW.out.fr 2; have f3 := HW.out.fr 3; have f4 := HW.out.fr 4))
    obtain ⟨hz, hbz⟩ := tok_ret (y0 := .int .i64 2) (y1 := .int .i64 q.1) (y2 := .int .i64 q.2) (y3 := .int .i64 x) (y4 := .string ⟨#[]⟩) HW.out
    generalize (((((World.setCell _ _ _).setCell _ _).setCell _ _).setCell _ _).setCell _ _) = wz at hz hbz ⊢
    obtain ⟨x0, x1, x2, x3, x4⟩ := box5 hz
    refine bodyPost_ret (v := .agg #[.int .i64 2, .int .i64 q.1, .int .i64 q.2, .int .i64 x, .string ⟨#[]⟩]) (by simp [results, Tryz.results25, go_sem, x0, x1, x2, x3, x4]) rfl ⟨rfl, hbz⟩
  have hr' : ((readF s.data.toList).2 == 0) = false := by simpa using hr
  by_cases hf : (floatT s.data.toList).2 = 0
  · have he : wordEnd s.data.toList q = .returned (tokV ⟨3, q.1, q.2, 0, eight (floatT s.data.toList).1⟩) := by unfold wordEnd wordT; rw [if_neg hr, if_pos hf]
    rw [hf] at HFL
    have hlt := floatT_lt s.data.toList
    have HBY : Hid (∀ W, Calls Tryz.prog 31 #[.int .u64 ((floatT s.data.toList).1 : Int)] W fun e w' => e = .returned (.string (bytes (eight (floatT s.data.toList).1))) ∧ Below W.heap.size W w') := fun W => bytes_any _ hlt W
    have HE : Hid (tokV ⟨3, q.1, q.2, 0, eight (floatT s.data.toList).1⟩ = .agg #[.int .i64 3, .int .i64 q.1, .int .i64 q.2, .int .i64 0, .string (bytes (eight (floatT s.data.toList).1))]) := rfl
    generalize htk : tokV ⟨3, q.1, q.2, 0, eight (floatT s.data.toList).1⟩ = tk at HE he
    rw [he]
    generalize bytes (eight (floatT s.data.toList).1) = bx at HBY HE
    generalize ((floatT s.data.toList).1 : Int) = fx at HFL HBY
    generalize (readF s.data.toList).1 = x at HRD
    generalize (readF s.data.toList).2 = rx at HRD hr'
    unfold posV
    clear he hr hf hsz hne hlt htk
    go_enter Tryz.func25, Tryz.ntmps25
    go_wp2_with
      (first
        | (go_at_call 29; (with_reducible refine (HRD.out _ HW.out.below).mono ?_); rintro e w_ ⟨rfl, hb⟩; replace HW := Lib.hid (HW.out.later hb); clear hb HRD)
        | (go_at_call 30; (with_reducible refine (HFL.out _ HW.out.below).mono ?_); rintro e w_ ⟨rfl, hb⟩; replace HW := Lib.hid (HW.out.later hb); clear hb HFL; obtain ⟨y0, y1, z0, z1, z2, z3, z4⟩ := HW.out.cells; have f0 := HW.out.fr 0; have f1 := HW.out.fr 1; have f2 := HW.out.fr 2; have f3 := HW.out.fr 3; have f4 := HW.out.fr 4))
    go_region_held3 (fun w' => w'.cell? ⟨w.heap.size, 0, none⟩ = some (.int .i64 q.1) ∧ w'.cell? ⟨w.heap.size, 1, none⟩ = some (.int .i64 q.2)) (go_keep)
      (first | (go_at_call 31; refine (HBY.out _).mono ?_; rintro e w_ ⟨rfl, hb⟩; replace HW := Lib.hid ((HW.out.later ((Below.refl _ _).drew)).later hb); clear hb; obtain ⟨y0, y1, z0, z1, z2, z3, z4⟩ := HW.out.cells; have f0 := HW.out.fr 0; have f1 := HW.out.fr 1; have f2 := HW.out.fr 2; have f3 := HW.out.fr 3; have f4 := HW.out.fr 4; dsimp only))
    go_wp2
    rw [HE.out]
    obtain ⟨hz, hbz⟩ := tok_ret (y0 := .int .i64 3) (y1 := .int .i64 q.1) (y2 := .int .i64 q.2) (y3 := .int .i64 0) (y4 := .string bx) HW.out
    generalize (((((World.setCell _ _ _).setCell _ _).setCell _ _).setCell _ _).setCell _ _) = wz at hz hbz ⊢
    obtain ⟨x0, x1, x2, x3, x4⟩ := box5 hz
    refine bodyPost_ret (v := .agg #[.int .i64 3, .int .i64 q.1, .int .i64 q.2, .int .i64 0, .string bx]) (by simp [results, Tryz.results25, go_sem, x0, x1, x2, x3, x4]) rfl ⟨rfl, hbz⟩
  have hf' : ((floatT s.data.toList).2 == 0) = false := by simpa using hf
  obtain ⟨c, r, hl⟩ : ∃ c r, s.data.toList = c :: r := by
    cases h : s.data.toList with
    | nil => exact absurd h hne
    | cons c r => exact ⟨c, r, rfl⟩
  rw [pick_eq hl q hr hf]
  have hP := fun W => Tryz.strings_TrimPrefix s ⟨#[45]⟩ W
  rw [show (⟨#[45]⟩ : ByteArray).data.toList = [45] from rfl, trimPrefix_sign] at hP
  obtain ⟨t, ht⟩ : ∃ t : ByteArray, t = ⟨(unsignedT s.data.toList).toArray⟩ := ⟨_, rfl⟩
  have htl : t.data.toList = unsignedT s.data.toList := by rw [ht]
  rw [← ht] at hP
  have HP := Lib.hid hP
  have hlen : (unsignedT s.data.toList).length ≤ s.size := by
    rw [Lib.size_eq]
    unfold unsignedT
    split
    · rw [List.length_tail]; omega
    · exact Nat.le_refl _
  have hts : t.size ≤ 1000000 := by rw [Lib.size_eq, htl]; omega
  have hx1 : (s.extract 0 1).data.toList = [c] := by
    have h : (s.extract 0 1).data.toList = (s.data.toList.take 1).drop 0 := by simp [ByteArray.data_extract, List.extract_eq_take_drop]
    rw [h, hl]; rfl
  have hx2 : (s.extract 0 1).size = 1 := by rw [Lib.size_eq, hx1]; rfl
  have Hod : Hid (∀ W, Calls Tryz.prog 33 #[.string t, .string (⟨#[48, 49, 50, 51, 52, 53, 54, 55, 56, 57]⟩)] W fun e w' => e = .returned (.bool ((unsignedT s.data.toList).all isDig)) ∧ Below W.heap.size W w') := fun W => by
    have h := only_any t (⟨#[48, 49, 50, 51, 52, 53, 54, 55, 56, 57]⟩) hts (by decide) (ascii_of_all (by decide)) W
    have e : (t.data.toList.all fun c => ((⟨#[48, 49, 50, 51, 52, 53, 54, 55, 56, 57]⟩) : ByteArray).data.toList.contains c) = (unsignedT s.data.toList).all isDig := by rw [htl]; exact List.all_congr rfl (fun c => isDig_contains c)
    rwa [e] at h
  have Hc1 : Hid (∀ W, Calls Tryz.prog 33 #[.string (s.extract 0 1), .string (⟨#[65, 66, 67, 68, 69, 70, 71, 72, 73, 74, 75, 76, 77, 78, 79, 80, 81, 82, 83, 84, 85, 86, 87, 88, 89, 90]⟩)] W fun e w' => e = .returned (.bool (isGreat c)) ∧ Below W.heap.size W w') := fun W => by
    have h := only_any (s.extract 0 1) (⟨#[65, 66, 67, 68, 69, 70, 71, 72, 73, 74, 75, 76, 77, 78, 79, 80, 81, 82, 83, 84, 85, 86, 87, 88, 89, 90]⟩) (by omega) (by decide) (ascii_of_all (by decide)) W
    rw [hx1] at h
    have e : ([c].all fun c => (⟨#[65, 66, 67, 68, 69, 70, 71, 72, 73, 74, 75, 76, 77, 78, 79, 80, 81, 82, 83, 84, 85, 86, 87, 88, 89, 90]⟩ : ByteArray).data.toList.contains c) = (isGreat c) := by rw [List.all_cons, List.all_nil, Bool.and_true]; exact set_g c
    rwa [e] at h
  have Hc2 : Hid (∀ W, Calls Tryz.prog 33 #[.string (s), .string (⟨#[65, 66, 67, 68, 69, 70, 71, 72, 73, 74, 75, 76, 77, 78, 79, 80, 81, 82, 83, 84, 85, 86, 87, 88, 89, 90, 97, 98, 99, 100, 101, 102, 103, 104, 105, 106, 107, 108, 109, 110, 111, 112, 113, 114, 115, 116, 117, 118, 119, 120, 121, 122, 48, 49, 50, 51, 52, 53, 54, 55, 56, 57]⟩)] W fun e w' => e = .returned (.bool (s.data.toList.all inCon)) ∧ Below W.heap.size W w') := fun W => by
    have h := only_any (s) (⟨#[65, 66, 67, 68, 69, 70, 71, 72, 73, 74, 75, 76, 77, 78, 79, 80, 81, 82, 83, 84, 85, 86, 87, 88, 89, 90, 97, 98, 99, 100, 101, 102, 103, 104, 105, 106, 107, 108, 109, 110, 111, 112, 113, 114, 115, 116, 117, 118, 119, 120, 121, 122, 48, 49, 50, 51, 52, 53, 54, 55, 56, 57]⟩) (by omega) (by decide) (ascii_of_all (by decide)) W
    have e : (s.data.toList.all fun c => (⟨#[65, 66, 67, 68, 69, 70, 71, 72, 73, 74, 75, 76, 77, 78, 79, 80, 81, 82, 83, 84, 85, 86, 87, 88, 89, 90, 97, 98, 99, 100, 101, 102, 103, 104, 105, 106, 107, 108, 109, 110, 111, 112, 113, 114, 115, 116, 117, 118, 119, 120, 121, 122, 48, 49, 50, 51, 52, 53, 54, 55, 56, 57]⟩ : ByteArray).data.toList.contains c) = (s.data.toList.all inCon) := List.all_congr rfl (fun c => set_a c)
    rwa [e] at h
  have Hn1 : Hid (∀ W, Calls Tryz.prog 33 #[.string (s.extract 0 1), .string (⟨#[97, 98, 99, 100, 101, 102, 103, 104, 105, 106, 107, 108, 109, 110, 111, 112, 113, 114, 115, 116, 117, 118, 119, 120, 121, 122, 39, 43, 42, 47, 60, 62, 61, 33, 63, 95, 46, 45]⟩)] W fun e w' => e = .returned (.bool ((isSmall c || isSign c))) ∧ Below W.heap.size W w') := fun W => by
    have h := only_any (s.extract 0 1) (⟨#[97, 98, 99, 100, 101, 102, 103, 104, 105, 106, 107, 108, 109, 110, 111, 112, 113, 114, 115, 116, 117, 118, 119, 120, 121, 122, 39, 43, 42, 47, 60, 62, 61, 33, 63, 95, 46, 45]⟩) (by omega) (by decide) (ascii_of_all (by decide)) W
    rw [hx1] at h
    have e : ([c].all fun c => (⟨#[97, 98, 99, 100, 101, 102, 103, 104, 105, 106, 107, 108, 109, 110, 111, 112, 113, 114, 115, 116, 117, 118, 119, 120, 121, 122, 39, 43, 42, 47, 60, 62, 61, 33, 63, 95, 46, 45]⟩ : ByteArray).data.toList.contains c) = ((isSmall c || isSign c)) := by rw [List.all_cons, List.all_nil, Bool.and_true]; exact set_s c
    rwa [e] at h
  have Hn2 : Hid (∀ W, Calls Tryz.prog 33 #[.string (s), .string (⟨#[65, 66, 67, 68, 69, 70, 71, 72, 73, 74, 75, 76, 77, 78, 79, 80, 81, 82, 83, 84, 85, 86, 87, 88, 89, 90, 97, 98, 99, 100, 101, 102, 103, 104, 105, 106, 107, 108, 109, 110, 111, 112, 113, 114, 115, 116, 117, 118, 119, 120, 121, 122, 48, 49, 50, 51, 52, 53, 54, 55, 56, 57, 39, 43, 42, 47, 60, 62, 61, 33, 63, 95, 46, 45]⟩)] W fun e w' => e = .returned (.bool (s.data.toList.all inName)) ∧ Below W.heap.size W w') := fun W => by
    have h := only_any (s) (⟨#[65, 66, 67, 68, 69, 70, 71, 72, 73, 74, 75, 76, 77, 78, 79, 80, 81, 82, 83, 84, 85, 86, 87, 88, 89, 90, 97, 98, 99, 100, 101, 102, 103, 104, 105, 106, 107, 108, 109, 110, 111, 112, 113, 114, 115, 116, 117, 118, 119, 120, 121, 122, 48, 49, 50, 51, 52, 53, 54, 55, 56, 57, 39, 43, 42, 47, 60, 62, 61, 33, 63, 95, 46, 45]⟩) (by omega) (by decide) (ascii_of_all (by decide)) W
    have e : (s.data.toList.all fun c => (⟨#[65, 66, 67, 68, 69, 70, 71, 72, 73, 74, 75, 76, 77, 78, 79, 80, 81, 82, 83, 84, 85, 86, 87, 88, 89, 90, 97, 98, 99, 100, 101, 102, 103, 104, 105, 106, 107, 108, 109, 110, 111, 112, 113, 114, 115, 116, 117, 118, 119, 120, 121, 122, 48, 49, 50, 51, 52, 53, 54, 55, 56, 57, 39, 43, 42, 47, 60, 62, 61, 33, 63, 95, 46, 45]⟩ : ByteArray).data.toList.contains c) = (s.data.toList.all inName) := List.all_congr rfl (fun c => set_n c)
    rwa [e] at h
  have e0 := emp_iff t
  rw [htl] at e0
  have hs1 : (1 : Int) ≤ (s.size : Int) := by
    have : 1 ≤ s.size := by rw [hsz, hl]; simp
    omega
  have hsl : (s.size : Int) ≤ 1000000 := by omega
  rw [← hsz]
  generalize (floatT s.data.toList).1 = fx at HFL
  generalize (floatT s.data.toList).2 = rf at HFL hf'
  generalize (readF s.data.toList).1 = x at HRD
  generalize (readF s.data.toList).2 = rx at HRD hr'
  generalize (unsignedT s.data.toList).isEmpty = w0 at e0 ⊢
  generalize (unsignedT s.data.toList).all isDig = dg at Hod ⊢
  generalize isGreat c = g1 at Hc1 ⊢
  generalize s.data.toList.all inCon = g2 at Hc2 ⊢
  generalize (isSmall c || isSign c) = n1 at Hn1 ⊢
  generalize s.data.toList.all inName = n2 at Hn2 ⊢
  unfold posV
  clear hP ht htl hlen hts hx1 hx2 hr hf hl hne hsz hs
  by_cases hb : 40 < s.size
  · have d1 : decide (40 < s.size) = true := decide_eq_true hb
    have d2 : (40 : Int) < (s.size : Int) := by omega
    rw [d1]
    clear d1 hb
    have hpk : pick true w0 dg g1 g2 n1 n2 s q = thrown q := rfl
    rw [hpk]
    clear hpk
    unfold thrown posV
    go_enter Tryz.func25, Tryz.ntmps25
    go_wp2_with
      (first
        | (go_at_call 29; (with_reducible refine (HRD.out _ HW.out.below).mono ?_); rintro e w_ ⟨rfl, hb⟩; replace HW := Lib.hid (HW.out.later hb); clear hb HRD)
        | (go_at_call 30; (with_reducible refine (HFL.out _ HW.out.below).mono ?_); rintro e w_ ⟨rfl, hb⟩; replace HW := Lib.hid (HW.out.later hb); clear hb HFL; obtain ⟨y0, y1, z0, z1, z2, z3, z4⟩ := HW.out.cells; have f0 := HW.out.fr 0; have f1 := HW.out.fr 1; have f2 := HW.out.fr 2; have f3 := HW.out.fr 3; have f4 := HW.out.fr 4)
        | (go_at_call 32; refine (HP.out _).mono ?_; rintro e w_ ⟨rfl, rfl⟩))
    exact ⟨rfl, rfl, HW.out.below⟩
  · have d1 : decide (40 < s.size) = false := decide_eq_false hb
    have d2 : ¬ (40 : Int) < (s.size : Int) := by omega
    rw [d1]
    clear d1 hb
    cases w0
    · cases dg
      · skip
        cases g1
        · cases n1
          · skip
            have hpk : pick false false false false g2 false n2 s q = thrown q := rfl
            rw [hpk]
            clear hpk
            unfold thrown posV
            go_enter Tryz.func25, Tryz.ntmps25
            go_wp2_with
              (first
                | (go_at_call 29; (with_reducible refine (HRD.out _ HW.out.below).mono ?_); rintro e w_ ⟨rfl, hb⟩; replace HW := Lib.hid (HW.out.later hb); clear hb HRD)
                | (go_at_call 30; (with_reducible refine (HFL.out _ HW.out.below).mono ?_); rintro e w_ ⟨rfl, hb⟩; replace HW := Lib.hid (HW.out.later hb); clear hb HFL)
                | (go_at_call 32; refine (HP.out _).mono ?_; rintro e w_ ⟨rfl, rfl⟩)
                | (go_at_call 33; (with_reducible refine (Hod.out _).mono ?_); rintro e w_ ⟨rfl, hb⟩; replace HW := Lib.hid (HW.out.later hb); clear hb Hod)
                | (go_at_call 33; (with_reducible refine (Hc1.out _).mono ?_); rintro e w_ ⟨rfl, hb⟩; replace HW := Lib.hid (HW.out.later hb); clear hb Hc1)
                | (go_at_call 33; (with_reducible refine (Hn1.out _).mono ?_); rintro e w_ ⟨rfl, hb⟩; replace HW := Lib.hid (HW.out.later hb); clear hb Hn1; obtain ⟨y0, y1, z0, z1, z2, z3, z4⟩ := HW.out.cells; have f0 := HW.out.fr 0; have f1 := HW.out.fr 1; have f2 := HW.out.fr 2; have f3 := HW.out.fr 3; have f4 := HW.out.fr 4))
            exact ⟨rfl, rfl, HW.out.below⟩
          · cases n2
            · skip
              have hpk : pick false false false false g2 true false s q = thrown q := rfl
              rw [hpk]
              clear hpk
              unfold thrown posV
              go_enter Tryz.func25, Tryz.ntmps25
              go_wp2_with
                (first
                  | (go_at_call 29; (with_reducible refine (HRD.out _ HW.out.below).mono ?_); rintro e w_ ⟨rfl, hb⟩; replace HW := Lib.hid (HW.out.later hb); clear hb HRD)
                  | (go_at_call 30; (with_reducible refine (HFL.out _ HW.out.below).mono ?_); rintro e w_ ⟨rfl, hb⟩; replace HW := Lib.hid (HW.out.later hb); clear hb HFL)
                  | (go_at_call 32; refine (HP.out _).mono ?_; rintro e w_ ⟨rfl, rfl⟩)
                  | (go_at_call 33; (with_reducible refine (Hod.out _).mono ?_); rintro e w_ ⟨rfl, hb⟩; replace HW := Lib.hid (HW.out.later hb); clear hb Hod)
                  | (go_at_call 33; (with_reducible refine (Hc1.out _).mono ?_); rintro e w_ ⟨rfl, hb⟩; replace HW := Lib.hid (HW.out.later hb); clear hb Hc1)
                  | (go_at_call 33; (with_reducible refine (Hn1.out _).mono ?_); rintro e w_ ⟨rfl, hb⟩; replace HW := Lib.hid (HW.out.later hb); clear hb Hn1)
                  | (go_at_call 33; (with_reducible refine (Hn2.out _).mono ?_); rintro e w_ ⟨rfl, hb⟩; replace HW := Lib.hid (HW.out.later hb); clear hb Hn2; obtain ⟨y0, y1, z0, z1, z2, z3, z4⟩ := HW.out.cells; have f0 := HW.out.fr 0; have f1 := HW.out.fr 1; have f2 := HW.out.fr 2; have f3 := HW.out.fr 3; have f4 := HW.out.fr 4))
              exact ⟨rfl, rfl, HW.out.below⟩
            · skip
              have hpk : pick false false false false g2 true true s q = .returned (.agg #[.int .i64 5, .int .i64 q.1, .int .i64 q.2, .int .i64 0, .string s]) := rfl
              rw [hpk]
              clear hpk
              go_enter Tryz.func25, Tryz.ntmps25
              go_wp2_with
                (first
                  | (go_at_call 29; (with_reducible refine (HRD.out _ HW.out.below).mono ?_); rintro e w_ ⟨rfl, hb⟩; replace HW := Lib.hid (HW.out.later hb); clear hb HRD)
                  | (go_at_call 30; (with_reducible refine (HFL.out _ HW.out.below).mono ?_); rintro e w_ ⟨rfl, hb⟩; replace HW := Lib.hid (HW.out.later hb); clear hb HFL)
                  | (go_at_call 32; refine (HP.out _).mono ?_; rintro e w_ ⟨rfl, rfl⟩)
                  | (go_at_call 33; (with_reducible refine (Hod.out _).mono ?_); rintro e w_ ⟨rfl, hb⟩; replace HW := Lib.hid (HW.out.later hb); clear hb Hod)
                  | (go_at_call 33; (with_reducible refine (Hc1.out _).mono ?_); rintro e w_ ⟨rfl, hb⟩; replace HW := Lib.hid (HW.out.later hb); clear hb Hc1)
                  | (go_at_call 33; (with_reducible refine (Hn1.out _).mono ?_); rintro e w_ ⟨rfl, hb⟩; replace HW := Lib.hid (HW.out.later hb); clear hb Hn1)
                  | (go_at_call 33; (with_reducible refine (Hn2.out _).mono ?_); rintro e w_ ⟨rfl, hb⟩; replace HW := Lib.hid (HW.out.later hb); clear hb Hn2; obtain ⟨y0, y1, z0, z1, z2, z3, z4⟩ := HW.out.cells; have f0 := HW.out.fr 0; have f1 := HW.out.fr 1; have f2 := HW.out.fr 2; have f3 := HW.out.fr 3; have f4 := HW.out.fr 4))
              obtain ⟨hz, hbz⟩ := tok_ret (y0 := .int .i64 5) (y1 := .int .i64 q.1) (y2 := .int .i64 q.2) (y3 := .int .i64 0) (y4 := .string s) HW.out
              generalize (((((World.setCell _ _ _).setCell _ _).setCell _ _).setCell _ _).setCell _ _) = wz at hz hbz ⊢
              obtain ⟨x0, x1, x2, x3, x4⟩ := box5 hz
              refine bodyPost_ret (v := .agg #[.int .i64 5, .int .i64 q.1, .int .i64 q.2, .int .i64 0, .string s]) (by simp [results, Tryz.results25, go_sem, x0, x1, x2, x3, x4]) rfl ⟨rfl, hbz⟩
        · cases g2
          · cases n1
            · skip
              have hpk : pick false false false true false false n2 s q = thrown q := rfl
              rw [hpk]
              clear hpk
              unfold thrown posV
              go_enter Tryz.func25, Tryz.ntmps25
              go_wp2_with
                (first
                  | (go_at_call 29; (with_reducible refine (HRD.out _ HW.out.below).mono ?_); rintro e w_ ⟨rfl, hb⟩; replace HW := Lib.hid (HW.out.later hb); clear hb HRD)
                  | (go_at_call 30; (with_reducible refine (HFL.out _ HW.out.below).mono ?_); rintro e w_ ⟨rfl, hb⟩; replace HW := Lib.hid (HW.out.later hb); clear hb HFL)
                  | (go_at_call 32; refine (HP.out _).mono ?_; rintro e w_ ⟨rfl, rfl⟩)
                  | (go_at_call 33; (with_reducible refine (Hod.out _).mono ?_); rintro e w_ ⟨rfl, hb⟩; replace HW := Lib.hid (HW.out.later hb); clear hb Hod)
                  | (go_at_call 33; (with_reducible refine (Hc1.out _).mono ?_); rintro e w_ ⟨rfl, hb⟩; replace HW := Lib.hid (HW.out.later hb); clear hb Hc1)
                  | (go_at_call 33; (with_reducible refine (Hc2.out _).mono ?_); rintro e w_ ⟨rfl, hb⟩; replace HW := Lib.hid (HW.out.later hb); clear hb Hc2)
                  | (go_at_call 33; (with_reducible refine (Hn1.out _).mono ?_); rintro e w_ ⟨rfl, hb⟩; replace HW := Lib.hid (HW.out.later hb); clear hb Hn1; obtain ⟨y0, y1, z0, z1, z2, z3, z4⟩ := HW.out.cells; have f0 := HW.out.fr 0; have f1 := HW.out.fr 1; have f2 := HW.out.fr 2; have f3 := HW.out.fr 3; have f4 := HW.out.fr 4))
              exact ⟨rfl, rfl, HW.out.below⟩
            · cases n2
              · skip
                have hpk : pick false false false true false true false s q = thrown q := rfl
                rw [hpk]
                clear hpk
                unfold thrown posV
                go_enter Tryz.func25, Tryz.ntmps25
                go_wp2_with
                  (first
                    | (go_at_call 29; (with_reducible refine (HRD.out _ HW.out.below).mono ?_); rintro e w_ ⟨rfl, hb⟩; replace HW := Lib.hid (HW.out.later hb); clear hb HRD)
                    | (go_at_call 30; (with_reducible refine (HFL.out _ HW.out.below).mono ?_); rintro e w_ ⟨rfl, hb⟩; replace HW := Lib.hid (HW.out.later hb); clear hb HFL)
                    | (go_at_call 32; refine (HP.out _).mono ?_; rintro e w_ ⟨rfl, rfl⟩)
                    | (go_at_call 33; (with_reducible refine (Hod.out _).mono ?_); rintro e w_ ⟨rfl, hb⟩; replace HW := Lib.hid (HW.out.later hb); clear hb Hod)
                    | (go_at_call 33; (with_reducible refine (Hc1.out _).mono ?_); rintro e w_ ⟨rfl, hb⟩; replace HW := Lib.hid (HW.out.later hb); clear hb Hc1)
                    | (go_at_call 33; (with_reducible refine (Hc2.out _).mono ?_); rintro e w_ ⟨rfl, hb⟩; replace HW := Lib.hid (HW.out.later hb); clear hb Hc2)
                    | (go_at_call 33; (with_reducible refine (Hn1.out _).mono ?_); rintro e w_ ⟨rfl, hb⟩; replace HW := Lib.hid (HW.out.later hb); clear hb Hn1)
                    | (go_at_call 33; (with_reducible refine (Hn2.out _).mono ?_); rintro e w_ ⟨rfl, hb⟩; replace HW := Lib.hid (HW.out.later hb); clear hb Hn2; obtain ⟨y0, y1, z0, z1, z2, z3, z4⟩ := HW.out.cells; have f0 := HW.out.fr 0; have f1 := HW.out.fr 1; have f2 := HW.out.fr 2; have f3 := HW.out.fr 3; have f4 := HW.out.fr 4))
                exact ⟨rfl, rfl, HW.out.below⟩
              · skip
                have hpk : pick false false false true false true true s q = .returned (.agg #[.int .i64 5, .int .i64 q.1, .int .i64 q.2, .int .i64 0, .string s]) := rfl
                rw [hpk]
                clear hpk
                go_enter Tryz.func25, Tryz.ntmps25
                go_wp2_with
                  (first
                    | (go_at_call 29; (with_reducible refine (HRD.out _ HW.out.below).mono ?_); rintro e w_ ⟨rfl, hb⟩; replace HW := Lib.hid (HW.out.later hb); clear hb HRD)
                    | (go_at_call 30; (with_reducible refine (HFL.out _ HW.out.below).mono ?_); rintro e w_ ⟨rfl, hb⟩; replace HW := Lib.hid (HW.out.later hb); clear hb HFL)
                    | (go_at_call 32; refine (HP.out _).mono ?_; rintro e w_ ⟨rfl, rfl⟩)
                    | (go_at_call 33; (with_reducible refine (Hod.out _).mono ?_); rintro e w_ ⟨rfl, hb⟩; replace HW := Lib.hid (HW.out.later hb); clear hb Hod)
                    | (go_at_call 33; (with_reducible refine (Hc1.out _).mono ?_); rintro e w_ ⟨rfl, hb⟩; replace HW := Lib.hid (HW.out.later hb); clear hb Hc1)
                    | (go_at_call 33; (with_reducible refine (Hc2.out _).mono ?_); rintro e w_ ⟨rfl, hb⟩; replace HW := Lib.hid (HW.out.later hb); clear hb Hc2)
                    | (go_at_call 33; (with_reducible refine (Hn1.out _).mono ?_); rintro e w_ ⟨rfl, hb⟩; replace HW := Lib.hid (HW.out.later hb); clear hb Hn1)
                    | (go_at_call 33; (with_reducible refine (Hn2.out _).mono ?_); rintro e w_ ⟨rfl, hb⟩; replace HW := Lib.hid (HW.out.later hb); clear hb Hn2; obtain ⟨y0, y1, z0, z1, z2, z3, z4⟩ := HW.out.cells; have f0 := HW.out.fr 0; have f1 := HW.out.fr 1; have f2 := HW.out.fr 2; have f3 := HW.out.fr 3; have f4 := HW.out.fr 4))
                obtain ⟨hz, hbz⟩ := tok_ret (y0 := .int .i64 5) (y1 := .int .i64 q.1) (y2 := .int .i64 q.2) (y3 := .int .i64 0) (y4 := .string s) HW.out
                generalize (((((World.setCell _ _ _).setCell _ _).setCell _ _).setCell _ _).setCell _ _) = wz at hz hbz ⊢
                obtain ⟨x0, x1, x2, x3, x4⟩ := box5 hz
                refine bodyPost_ret (v := .agg #[.int .i64 5, .int .i64 q.1, .int .i64 q.2, .int .i64 0, .string s]) (by simp [results, Tryz.results25, go_sem, x0, x1, x2, x3, x4]) rfl ⟨rfl, hbz⟩
          · skip
            have hpk : pick false false false true true n1 n2 s q = .returned (.agg #[.int .i64 6, .int .i64 q.1, .int .i64 q.2, .int .i64 0, .string s]) := rfl
            rw [hpk]
            clear hpk
            go_enter Tryz.func25, Tryz.ntmps25
            go_wp2_with
              (first
                | (go_at_call 29; (with_reducible refine (HRD.out _ HW.out.below).mono ?_); rintro e w_ ⟨rfl, hb⟩; replace HW := Lib.hid (HW.out.later hb); clear hb HRD)
                | (go_at_call 30; (with_reducible refine (HFL.out _ HW.out.below).mono ?_); rintro e w_ ⟨rfl, hb⟩; replace HW := Lib.hid (HW.out.later hb); clear hb HFL)
                | (go_at_call 32; refine (HP.out _).mono ?_; rintro e w_ ⟨rfl, rfl⟩)
                | (go_at_call 33; (with_reducible refine (Hod.out _).mono ?_); rintro e w_ ⟨rfl, hb⟩; replace HW := Lib.hid (HW.out.later hb); clear hb Hod)
                | (go_at_call 33; (with_reducible refine (Hc1.out _).mono ?_); rintro e w_ ⟨rfl, hb⟩; replace HW := Lib.hid (HW.out.later hb); clear hb Hc1)
                | (go_at_call 33; (with_reducible refine (Hc2.out _).mono ?_); rintro e w_ ⟨rfl, hb⟩; replace HW := Lib.hid (HW.out.later hb); clear hb Hc2; obtain ⟨y0, y1, z0, z1, z2, z3, z4⟩ := HW.out.cells; have f0 := HW.out.fr 0; have f1 := HW.out.fr 1; have f2 := HW.out.fr 2; have f3 := HW.out.fr 3; have f4 := HW.out.fr 4))
            obtain ⟨hz, hbz⟩ := tok_ret (y0 := .int .i64 6) (y1 := .int .i64 q.1) (y2 := .int .i64 q.2) (y3 := .int .i64 0) (y4 := .string s) HW.out
            generalize (((((World.setCell _ _ _).setCell _ _).setCell _ _).setCell _ _).setCell _ _) = wz at hz hbz ⊢
            obtain ⟨x0, x1, x2, x3, x4⟩ := box5 hz
            refine bodyPost_ret (v := .agg #[.int .i64 6, .int .i64 q.1, .int .i64 q.2, .int .i64 0, .string s]) (by simp [results, Tryz.results25, go_sem, x0, x1, x2, x3, x4]) rfl ⟨rfl, hbz⟩
      · skip
        have hpk : pick false false true g1 g2 n1 n2 s q = thrown q := rfl
        rw [hpk]
        clear hpk
        unfold thrown posV
        go_enter Tryz.func25, Tryz.ntmps25
        go_wp2_with
          (first
            | (go_at_call 29; (with_reducible refine (HRD.out _ HW.out.below).mono ?_); rintro e w_ ⟨rfl, hb⟩; replace HW := Lib.hid (HW.out.later hb); clear hb HRD)
            | (go_at_call 30; (with_reducible refine (HFL.out _ HW.out.below).mono ?_); rintro e w_ ⟨rfl, hb⟩; replace HW := Lib.hid (HW.out.later hb); clear hb HFL)
            | (go_at_call 32; refine (HP.out _).mono ?_; rintro e w_ ⟨rfl, rfl⟩)
            | (go_at_call 33; (with_reducible refine (Hod.out _).mono ?_); rintro e w_ ⟨rfl, hb⟩; replace HW := Lib.hid (HW.out.later hb); clear hb Hod; obtain ⟨y0, y1, z0, z1, z2, z3, z4⟩ := HW.out.cells; have f0 := HW.out.fr 0; have f1 := HW.out.fr 1; have f2 := HW.out.fr 2; have f3 := HW.out.fr 3; have f4 := HW.out.fr 4))
        exact ⟨rfl, rfl, HW.out.below⟩
    · skip
      cases g1
      · cases n1
        · skip
          have hpk : pick false true dg false g2 false n2 s q = thrown q := rfl
          rw [hpk]
          clear hpk
          unfold thrown posV
          go_enter Tryz.func25, Tryz.ntmps25
          go_wp2_with
            (first
              | (go_at_call 29; (with_reducible refine (HRD.out _ HW.out.below).mono ?_); rintro e w_ ⟨rfl, hb⟩; replace HW := Lib.hid (HW.out.later hb); clear hb HRD)
              | (go_at_call 30; (with_reducible refine (HFL.out _ HW.out.below).mono ?_); rintro e w_ ⟨rfl, hb⟩; replace HW := Lib.hid (HW.out.later hb); clear hb HFL)
              | (go_at_call 32; refine (HP.out _).mono ?_; rintro e w_ ⟨rfl, rfl⟩)
              | (go_at_call 33; (with_reducible refine (Hc1.out _).mono ?_); rintro e w_ ⟨rfl, hb⟩; replace HW := Lib.hid (HW.out.later hb); clear hb Hc1)
              | (go_at_call 33; (with_reducible refine (Hn1.out _).mono ?_); rintro e w_ ⟨rfl, hb⟩; replace HW := Lib.hid (HW.out.later hb); clear hb Hn1; obtain ⟨y0, y1, z0, z1, z2, z3, z4⟩ := HW.out.cells; have f0 := HW.out.fr 0; have f1 := HW.out.fr 1; have f2 := HW.out.fr 2; have f3 := HW.out.fr 3; have f4 := HW.out.fr 4))
          exact ⟨rfl, rfl, HW.out.below⟩
        · cases n2
          · skip
            have hpk : pick false true dg false g2 true false s q = thrown q := rfl
            rw [hpk]
            clear hpk
            unfold thrown posV
            go_enter Tryz.func25, Tryz.ntmps25
            go_wp2_with
              (first
                | (go_at_call 29; (with_reducible refine (HRD.out _ HW.out.below).mono ?_); rintro e w_ ⟨rfl, hb⟩; replace HW := Lib.hid (HW.out.later hb); clear hb HRD)
                | (go_at_call 30; (with_reducible refine (HFL.out _ HW.out.below).mono ?_); rintro e w_ ⟨rfl, hb⟩; replace HW := Lib.hid (HW.out.later hb); clear hb HFL)
                | (go_at_call 32; refine (HP.out _).mono ?_; rintro e w_ ⟨rfl, rfl⟩)
                | (go_at_call 33; (with_reducible refine (Hc1.out _).mono ?_); rintro e w_ ⟨rfl, hb⟩; replace HW := Lib.hid (HW.out.later hb); clear hb Hc1)
                | (go_at_call 33; (with_reducible refine (Hn1.out _).mono ?_); rintro e w_ ⟨rfl, hb⟩; replace HW := Lib.hid (HW.out.later hb); clear hb Hn1)
                | (go_at_call 33; (with_reducible refine (Hn2.out _).mono ?_); rintro e w_ ⟨rfl, hb⟩; replace HW := Lib.hid (HW.out.later hb); clear hb Hn2; obtain ⟨y0, y1, z0, z1, z2, z3, z4⟩ := HW.out.cells; have f0 := HW.out.fr 0; have f1 := HW.out.fr 1; have f2 := HW.out.fr 2; have f3 := HW.out.fr 3; have f4 := HW.out.fr 4))
            exact ⟨rfl, rfl, HW.out.below⟩
          · skip
            have hpk : pick false true dg false g2 true true s q = .returned (.agg #[.int .i64 5, .int .i64 q.1, .int .i64 q.2, .int .i64 0, .string s]) := rfl
            rw [hpk]
            clear hpk
            go_enter Tryz.func25, Tryz.ntmps25
            go_wp2_with
              (first
                | (go_at_call 29; (with_reducible refine (HRD.out _ HW.out.below).mono ?_); rintro e w_ ⟨rfl, hb⟩; replace HW := Lib.hid (HW.out.later hb); clear hb HRD)
                | (go_at_call 30; (with_reducible refine (HFL.out _ HW.out.below).mono ?_); rintro e w_ ⟨rfl, hb⟩; replace HW := Lib.hid (HW.out.later hb); clear hb HFL)
                | (go_at_call 32; refine (HP.out _).mono ?_; rintro e w_ ⟨rfl, rfl⟩)
                | (go_at_call 33; (with_reducible refine (Hc1.out _).mono ?_); rintro e w_ ⟨rfl, hb⟩; replace HW := Lib.hid (HW.out.later hb); clear hb Hc1)
                | (go_at_call 33; (with_reducible refine (Hn1.out _).mono ?_); rintro e w_ ⟨rfl, hb⟩; replace HW := Lib.hid (HW.out.later hb); clear hb Hn1)
                | (go_at_call 33; (with_reducible refine (Hn2.out _).mono ?_); rintro e w_ ⟨rfl, hb⟩; replace HW := Lib.hid (HW.out.later hb); clear hb Hn2; obtain ⟨y0, y1, z0, z1, z2, z3, z4⟩ := HW.out.cells; have f0 := HW.out.fr 0; have f1 := HW.out.fr 1; have f2 := HW.out.fr 2; have f3 := HW.out.fr 3; have f4 := HW.out.fr 4))
            obtain ⟨hz, hbz⟩ := tok_ret (y0 := .int .i64 5) (y1 := .int .i64 q.1) (y2 := .int .i64 q.2) (y3 := .int .i64 0) (y4 := .string s) HW.out
            generalize (((((World.setCell _ _ _).setCell _ _).setCell _ _).setCell _ _).setCell _ _) = wz at hz hbz ⊢
            obtain ⟨x0, x1, x2, x3, x4⟩ := box5 hz
            refine bodyPost_ret (v := .agg #[.int .i64 5, .int .i64 q.1, .int .i64 q.2, .int .i64 0, .string s]) (by simp [results, Tryz.results25, go_sem, x0, x1, x2, x3, x4]) rfl ⟨rfl, hbz⟩
      · cases g2
        · cases n1
          · skip
            have hpk : pick false true dg true false false n2 s q = thrown q := rfl
            rw [hpk]
            clear hpk
            unfold thrown posV
            go_enter Tryz.func25, Tryz.ntmps25
            go_wp2_with
              (first
                | (go_at_call 29; (with_reducible refine (HRD.out _ HW.out.below).mono ?_); rintro e w_ ⟨rfl, hb⟩; replace HW := Lib.hid (HW.out.later hb); clear hb HRD)
                | (go_at_call 30; (with_reducible refine (HFL.out _ HW.out.below).mono ?_); rintro e w_ ⟨rfl, hb⟩; replace HW := Lib.hid (HW.out.later hb); clear hb HFL)
                | (go_at_call 32; refine (HP.out _).mono ?_; rintro e w_ ⟨rfl, rfl⟩)
                | (go_at_call 33; (with_reducible refine (Hc1.out _).mono ?_); rintro e w_ ⟨rfl, hb⟩; replace HW := Lib.hid (HW.out.later hb); clear hb Hc1)
                | (go_at_call 33; (with_reducible refine (Hc2.out _).mono ?_); rintro e w_ ⟨rfl, hb⟩; replace HW := Lib.hid (HW.out.later hb); clear hb Hc2)
                | (go_at_call 33; (with_reducible refine (Hn1.out _).mono ?_); rintro e w_ ⟨rfl, hb⟩; replace HW := Lib.hid (HW.out.later hb); clear hb Hn1; obtain ⟨y0, y1, z0, z1, z2, z3, z4⟩ := HW.out.cells; have f0 := HW.out.fr 0; have f1 := HW.out.fr 1; have f2 := HW.out.fr 2; have f3 := HW.out.fr 3; have f4 := HW.out.fr 4))
            exact ⟨rfl, rfl, HW.out.below⟩
          · cases n2
            · skip
              have hpk : pick false true dg true false true false s q = thrown q := rfl
              rw [hpk]
              clear hpk
              unfold thrown posV
              go_enter Tryz.func25, Tryz.ntmps25
              go_wp2_with
                (first
                  | (go_at_call 29; (with_reducible refine (HRD.out _ HW.out.below).mono ?_); rintro e w_ ⟨rfl, hb⟩; replace HW := Lib.hid (HW.out.later hb); clear hb HRD)
                  | (go_at_call 30; (with_reducible refine (HFL.out _ HW.out.below).mono ?_); rintro e w_ ⟨rfl, hb⟩; replace HW := Lib.hid (HW.out.later hb); clear hb HFL)
                  | (go_at_call 32; refine (HP.out _).mono ?_; rintro e w_ ⟨rfl, rfl⟩)
                  | (go_at_call 33; (with_reducible refine (Hc1.out _).mono ?_); rintro e w_ ⟨rfl, hb⟩; replace HW := Lib.hid (HW.out.later hb); clear hb Hc1)
                  | (go_at_call 33; (with_reducible refine (Hc2.out _).mono ?_); rintro e w_ ⟨rfl, hb⟩; replace HW := Lib.hid (HW.out.later hb); clear hb Hc2)
                  | (go_at_call 33; (with_reducible refine (Hn1.out _).mono ?_); rintro e w_ ⟨rfl, hb⟩; replace HW := Lib.hid (HW.out.later hb); clear hb Hn1)
                  | (go_at_call 33; (with_reducible refine (Hn2.out _).mono ?_); rintro e w_ ⟨rfl, hb⟩; replace HW := Lib.hid (HW.out.later hb); clear hb Hn2; obtain ⟨y0, y1, z0, z1, z2, z3, z4⟩ := HW.out.cells; have f0 := HW.out.fr 0; have f1 := HW.out.fr 1; have f2 := HW.out.fr 2; have f3 := HW.out.fr 3; have f4 := HW.out.fr 4))
              exact ⟨rfl, rfl, HW.out.below⟩
            · skip
              have hpk : pick false true dg true false true true s q = .returned (.agg #[.int .i64 5, .int .i64 q.1, .int .i64 q.2, .int .i64 0, .string s]) := rfl
              rw [hpk]
              clear hpk
              go_enter Tryz.func25, Tryz.ntmps25
              go_wp2_with
                (first
                  | (go_at_call 29; (with_reducible refine (HRD.out _ HW.out.below).mono ?_); rintro e w_ ⟨rfl, hb⟩; replace HW := Lib.hid (HW.out.later hb); clear hb HRD)
                  | (go_at_call 30; (with_reducible refine (HFL.out _ HW.out.below).mono ?_); rintro e w_ ⟨rfl, hb⟩; replace HW := Lib.hid (HW.out.later hb); clear hb HFL)
                  | (go_at_call 32; refine (HP.out _).mono ?_; rintro e w_ ⟨rfl, rfl⟩)
                  | (go_at_call 33; (with_reducible refine (Hc1.out _).mono ?_); rintro e w_ ⟨rfl, hb⟩; replace HW := Lib.hid (HW.out.later hb); clear hb Hc1)
                  | (go_at_call 33; (with_reducible refine (Hc2.out _).mono ?_); rintro e w_ ⟨rfl, hb⟩; replace HW := Lib.hid (HW.out.later hb); clear hb Hc2)
                  | (go_at_call 33; (with_reducible refine (Hn1.out _).mono ?_); rintro e w_ ⟨rfl, hb⟩; replace HW := Lib.hid (HW.out.later hb); clear hb Hn1)
                  | (go_at_call 33; (with_reducible refine (Hn2.out _).mono ?_); rintro e w_ ⟨rfl, hb⟩; replace HW := Lib.hid (HW.out.later hb); clear hb Hn2; obtain ⟨y0, y1, z0, z1, z2, z3, z4⟩ := HW.out.cells; have f0 := HW.out.fr 0; have f1 := HW.out.fr 1; have f2 := HW.out.fr 2; have f3 := HW.out.fr 3; have f4 := HW.out.fr 4))
              obtain ⟨hz, hbz⟩ := tok_ret (y0 := .int .i64 5) (y1 := .int .i64 q.1) (y2 := .int .i64 q.2) (y3 := .int .i64 0) (y4 := .string s) HW.out
              generalize (((((World.setCell _ _ _).setCell _ _).setCell _ _).setCell _ _).setCell _ _) = wz at hz hbz ⊢
              obtain ⟨x0, x1, x2, x3, x4⟩ := box5 hz
              refine bodyPost_ret (v := .agg #[.int .i64 5, .int .i64 q.1, .int .i64 q.2, .int .i64 0, .string s]) (by simp [results, Tryz.results25, go_sem, x0, x1, x2, x3, x4]) rfl ⟨rfl, hbz⟩
        · skip
          have hpk : pick false true dg true true n1 n2 s q = .returned (.agg #[.int .i64 6, .int .i64 q.1, .int .i64 q.2, .int .i64 0, .string s]) := rfl
          rw [hpk]
          clear hpk
          go_enter Tryz.func25, Tryz.ntmps25
          go_wp2_with
            (first
              | (go_at_call 29; (with_reducible refine (HRD.out _ HW.out.below).mono ?_); rintro e w_ ⟨rfl, hb⟩; replace HW := Lib.hid (HW.out.later hb); clear hb HRD)
              | (go_at_call 30; (with_reducible refine (HFL.out _ HW.out.below).mono ?_); rintro e w_ ⟨rfl, hb⟩; replace HW := Lib.hid (HW.out.later hb); clear hb HFL)
              | (go_at_call 32; refine (HP.out _).mono ?_; rintro e w_ ⟨rfl, rfl⟩)
              | (go_at_call 33; (with_reducible refine (Hc1.out _).mono ?_); rintro e w_ ⟨rfl, hb⟩; replace HW := Lib.hid (HW.out.later hb); clear hb Hc1)
              | (go_at_call 33; (with_reducible refine (Hc2.out _).mono ?_); rintro e w_ ⟨rfl, hb⟩; replace HW := Lib.hid (HW.out.later hb); clear hb Hc2; obtain ⟨y0, y1, z0, z1, z2, z3, z4⟩ := HW.out.cells; have f0 := HW.out.fr 0; have f1 := HW.out.fr 1; have f2 := HW.out.fr 2; have f3 := HW.out.fr 3; have f4 := HW.out.fr 4))
          obtain ⟨hz, hbz⟩ := tok_ret (y0 := .int .i64 6) (y1 := .int .i64 q.1) (y2 := .int .i64 q.2) (y3 := .int .i64 0) (y4 := .string s) HW.out
          generalize (((((World.setCell _ _ _).setCell _ _).setCell _ _).setCell _ _).setCell _ _) = wz at hz hbz ⊢
          obtain ⟨x0, x1, x2, x3, x4⟩ := box5 hz
          refine bodyPost_ret (v := .agg #[.int .i64 6, .int .i64 q.1, .int .i64 q.2, .int .i64 0, .string s]) (by simp [results, Tryz.results25, go_sem, x0, x1, x2, x3, x4]) rfl ⟨rfl, hbz⟩
end Go.Proofs.YtlailomhgipppaaGreatDoor
