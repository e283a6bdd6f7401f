/- Texts of the proof, in build order: Text, TopG, ByteG, Slim, SameP, Hex, Txt1, Txt2, Txt3. -/
import Derived.Test.YtenikoecnfbfoaaGreatDoorB19
import Derived.WalkSmall
import Derived.Lib.ItoaLen
import Derived.Test.YtenikoecnfbfoaaGreatDoorB14
import Derived.Test.YtenikoecnfbfoaaGreatDoorB12
import Derived.Deep.DeepCutAuto
/- The program's Text. -/
namespace Go.Proofs.YtenikoecnfbfoaaGreatDoor
open Go.RowKit Go.Maps Go.Sort Wr
set_option linter.unusedVariables false

abbrev Tab (w : World) : Prop := Lib.TabIs Tryz.prog w "internal/strconv.uint64pow10" .u64 Lib.pow10Tab
theorem Tab.below {w w' : World} (h : Tab w) (hb : Below w.heap.size w w') : Tab w' := by
  have hg : Tryz.prog.globalNamed "internal/strconv.uint64pow10" = some 1 := by kernel_rfl
  have hc := World.var?_cell hg h 0
  exact var?_below hb hg (lt_of_cell (v := .int .u64 1) (by rw [hc]; rfl)) h
theorem below_grow (w : World) (k : Nat) (os : Array Obj) : Below w.heap.size w (grow (w.drewN k) os) :=
  ⟨rfl, rfl, rfl, by simp, fun i hi => by rw [heap_grow_old _ _ (by simpa using hi)]; simp⟩
set_option maxRecDepth 100000 in
theorem numText_any (n : Int) (w : World) (ht : Tab w) : Calls Tryz.prog 36 #[.int .i64 n] w fun e w' => e = .returned (.string (bytes (Lib.itoa (wr n)))) ∧ Below w.heap.size w w' := by
  have h1 := wr_ge n
  have h2 := wr_le n
  have HI := Lib.hid (Tryz.strconv_Itoa (wr n) (by omega) (by omega) w ht)
  go_enter Tryz.func36, Tryz.ntmps36
  go_wp2_with (first
    | (go_at_call 55; refine (wrap_any _ _).mono ?_; rintro e w' ⟨rfl, rfl⟩)
    | (go_at_call 54; refine HI.out.mono ?_; rintro e w5 ⟨rfl, k, os, rfl⟩))
  go_ret
  exact ⟨rfl, below_grow _ _ _⟩

def topTxt (F : Nat → List UInt8) (k n : Int) (s : ByteArray) (j : List UInt8) (m : Nat) : List UInt8 :=
  if k = 0 then Lib.itoa (wr n) else if k = 1 then F (bitsOf s.data.toList) else if k = 2 then quoteB s.data.toList else if k = 3 then 67 :: (Lib.itoa (wr n) ++ if m = 0 then [] else 40 :: (j ++ [41])) else if k = 4 then 40 :: (j ++ [41]) else if k = 5 then 64 :: Lib.itoa (wr n) else [40, 41]
namespace VT
mutual
def txt (F : Nat → List UInt8) : VT → List UInt8
  | node k n s l => topTxt F k n s (Lib.join (txts F l) [44]) l.length
def txts (F : Nat → List UInt8) : List VT → List (List UInt8)
  | [] => []
  | t :: l => txt F t :: txts F l
end
mutual
/-- No float in it. -/
def noFl : VT → Bool
  | node k _ _ l => decide (k ≠ 1) && noFls l
def noFls : List VT → Bool
  | [] => true
  | t :: l => noFl t && noFls l
end
theorem txt_node (F : Nat → List UInt8) (k n : Int) (s : ByteArray) (l : List VT) : txt F (node k n s l) = topTxt F k n s (Lib.join (txts F l) [44]) l.length := by rw [txt]
theorem txts_map (F : Nat → List UInt8) : ∀ l : List VT, txts F l = l.map (txt F)
  | [] => by rw [txts]; rfl
  | t :: l => by rw [txts, txts_map F l]; rfl
theorem noFls_get : ∀ {l : List VT} {i : Nat} {t : VT}, noFls l = true → l[i]? = some t → t.noFl = true
  | [], _, _, _, h => by cases h
  | t :: l, 0, u, h, hi => by rw [List.getElem?_cons_zero] at hi; cases hi; rw [noFls, Bool.and_eq_true] at h; exact h.1
  | t :: l, i + 1, u, h, hi => by rw [List.getElem?_cons_succ] at hi; rw [noFls, Bool.and_eq_true] at h; exact noFls_get h.2 hi
theorem noFl_kids {k n : Int} {s : ByteArray} {l : List VT} (h : (node k n s l).noFl = true) : noFls l = true := by rw [noFl, Bool.and_eq_true] at h; exact h.2
end VT
theorem fits_none {k n : Int} {s : ByteArray} {m : Nat} (h : fitsB k n s m = true) (h3 : k ≠ 3) (h4 : k ≠ 4) : m = 0 := by
  unfold fitsB at h
  rw [if_neg h3, if_neg h4] at h
  split at h
  · simp only [Bool.and_eq_true, decide_eq_true_eq] at h; exact h.2
  · split at h
    · simp only [Bool.and_eq_true, decide_eq_true_eq] at h; exact h.1.2
    · split at h
      · simp only [Bool.and_eq_true, decide_eq_true_eq] at h; exact h.2
      · split at h
        · simp only [Bool.and_eq_true, decide_eq_true_eq] at h; exact h.2
        · split at h
          · simp only [Bool.and_eq_true, decide_eq_true_eq] at h; exact h.2
          · cases h
theorem join_le (sep : List UInt8) : ∀ {xs : List (List UInt8)} {i : Nat} {x : List UInt8}, xs[i]? = some x → x.length ≤ (Lib.join xs sep).length
  | [], _, _, h => by cases h
  | [y], 0, x, h => by rw [List.getElem?_cons_zero] at h; cases h; rw [Lib.join_one]; exact Nat.le_refl _
  | [y], i + 1, x, h => by cases h
  | y :: z :: r, 0, x, h => by rw [List.getElem?_cons_zero] at h; cases h; rw [Lib.join_cons, List.length_append]; omega
  | y :: z :: r, i + 1, x, h => by
    rw [List.getElem?_cons_succ] at h
    have := join_le sep h
    rw [Lib.join_cons, Lib.joinTail, List.map_cons, List.flatten_cons]
    rw [Lib.join_cons, Lib.joinTail] at this
    simp only [List.length_append] at this ⊢
    omega

theorem infoS : (Tryz.prog.info? 9).map (fun i => (i.zero, i.size, i.bytes)) = some (some (.string ⟨#[]⟩), 1, 16) := by kernel_rfl
def svals (l : List (List UInt8)) : List Value := l.map fun b => Value.string (bytes b)
theorem svals_length (l : List (List UInt8)) : (svals l).length = l.length := by simp [svals]
def TxtLoop (F : Nat → List UInt8) (N : Nat) (W : World) (l : List VT) (k : Nat) (s3 s10 : Value) (w : World) : Prop :=
  ∃ (i : Nat), s10 = .int .i64 i ∧ i + k = l.length ∧ Row w 9 s3 (svals (VT.txts F (l.take i))) ∧ (∀ b, s3.ownBlock = some b → N ≤ b) ∧ Below N W w
theorem txts_next (F : Nat → List UInt8) {l : List VT} {i : Nat} {t : VT} (h : l[i]? = some t) : svals (VT.txts F (l.take (i + 1))) = svals (VT.txts F (l.take i)) ++ [.string (bytes (t.txt F))] := by
  obtain ⟨hi, rfl⟩ := List.getElem?_eq_some_iff.1 h
  rw [VT.txts_map, VT.txts_map, List.take_succ_eq_append_getElem hi]
  simp only [svals, List.map_append, List.map_cons, List.map_nil]
/-- strings.Join of the texts. -/
theorem join_row {F : Nat → List UInt8} {l : List VT} {v : Value} {w : World} (hr : Row w 9 v (svals (VT.txts F l))) (hl : (Lib.join (VT.txts F l) [44]).length ≤ 1000000) (hn : l.length ≤ 1000000) :
    Calls Tryz.prog 56 #[v, .string ⟨#[44]⟩] w fun e w' => e = .returned (.string (bytes (Lib.join (VT.txts F l) [44]))) ∧ Below w.heap.size w w' := by
  have hlen : (VT.txts F l).length = l.length := by rw [VT.txts_map, List.length_map]
  rcases hr.shape with ⟨rfl, h0⟩ | ⟨g, cap, rfl, h1, h2, h3⟩
  · have e : VT.txts F l = [] := by simpa [svals] using h0
    rw [e]
    exact (Tryz.strings_Join_none none 0 ⟨#[44]⟩ w).mono fun e w' h => ⟨h.1, h.2 ▸ Below.refl _ _⟩
  · rw [svals_length] at h1 hr ⊢
    have := Tryz.strings_Join g 0 cap ((VT.txts F l).map bytes) ⟨#[44]⟩ w (fun j x hx => by
      have hj : j < (svals (VT.txts F l)).length := by rw [svals_length]; simpa using (List.getElem?_eq_some_iff.1 hx).1
      rw [Nat.zero_add, hr.cellAt j hj]
      simp only [svals, List.getElem?_map, Option.map_eq_some_iff] at hx ⊢
      obtain ⟨a, ha, rfl⟩ := hx
      exact ⟨a, ha, rfl⟩) h3 (by rw [List.length_map, hlen]; omega) (by rw [List.length_map]; exact h1) (by
        rw [List.map_map, show (fun x : ByteArray => x.data.toList) ∘ bytes = id from funext fun l => by simp [bytes], List.map_id]
        have : (Lib.join (VT.txts F l) [44]).length ≤ 1000000 := hl
        exact Nat.le_trans this (by decide))
    rw [List.length_map, List.map_map, show (fun x : ByteArray => x.data.toList) ∘ bytes = id from funext fun l => by simp [bytes], List.map_id] at this
    exact this

section
variable (F : Nat → List UInt8) (Fl : Bool) (w0 : World) (hT : Tab w0) (hF : Fl = true → ∀ (x : Nat) (w : World), x < 18446744073709551616 → Below w0.heap.size w0 w → Calls Tryz.prog 58 #[.int .u64 x] w fun e w' => e = .returned (.string (bytes (F x))) ∧ Below w.heap.size w w')
variable (k : Nat) (ih : ∀ (t : VT) (vt : Value) (w : World) (P : Nat → Prop) (d : Int), t.sz ≤ k → t.right d = true → (Fl = true ∨ t.noFl = true) → ValIs w P t vt → (∀ x, P x → x < w.heap.size) → Below w0.heap.size w0 w → (t.txt F).length ≤ 1000000 →
    Calls Tryz.prog 37 #[vt] w fun e w' => e = .returned (.string (bytes (t.txt F))) ∧ Below w.heap.size w w')
include hT ih in
set_option maxRecDepth 100000 in
set_option maxHeartbeats 3200000 in
theorem text_0 (na : Int) (sa : ByteArray) (la : List VT) (w : World) (P : Nat → Prop) (d : Int) (ao : Option Addr) (cap : Nat) (hk : (VT.node 0 na sa la).sz ≤ k + 1) (hr : (VT.node 0 na sa la).right d = true) (hfl : Fl = true ∨ (VT.node 0 na sa la).noFl = true)
    (a1 : la.length ≤ cap) (a2 : cap ≤ maxLen) (a7 : KidsAt w P la ao 0) (hP : ∀ x, P x → x < w.heap.size) (hw : Below w0.heap.size w0 w) (hlen : ((VT.node 0 na sa la).txt F).length ≤ 1000000) :
    Calls Tryz.prog 37 #[.agg #[.int .i64 0, .int .i64 na, .string sa, .slice ao la.length cap]] w fun e w' => e = .returned (.string (bytes ((VT.node 0 na sa la).txt F))) ∧ Below w.heap.size w w' := by
  obtain ⟨hf, hrs', hd⟩ := VT.right_parts hr
  have hrs := Lib.hid hrs'
  have hfp := fits_parts hf
  have hl8 : la.length ≤ 8 := hfp.2.2.1
  have HFL : Hid (Fl = true ∨ VT.noFls la = true) := hfl.imp id VT.noFl_kids
  have HX := Lib.hid (VT.txt_node F 0 na sa la)
  have HLEN : Hid ((topTxt F 0 na sa (Lib.join (VT.txts F la) [44]) la.length).length ≤ 1000000) := by rw [VT.txt_node] at hlen; exact hlen
  have HJ : Hid ((Lib.join (VT.txts F la) [44]).length ≤ 1000000) := by
    have : la = [] := List.length_eq_zero_iff.1 (fits_none hf (by decide) (by decide))
    subst this
    show _ ≤ _
    simp [VT.txts, Lib.join_nil]
  unfold maxLen at a2
  have HW := Lib.hid hw
  have HT : Hid (∀ W, Below w.heap.size w W → Tab W) := fun W hW => hT.below (hw.trans (hW.mono hw.size))

  clear hrs' hr hlen hw hT hfl hf
  go_enter Tryz.func37, Tryz.ntmps37
  go_wp2
  have HL : Hid (TxtLoop F (w.heap.size + 1) (w.alloc (.cells #[.int .i64 0, .int .i64 na, .string sa, .slice ao la.length cap] 47)) la la.length (.slice none 0 0) (.int .i64 0) (w.alloc (.cells #[.int .i64 0, .int .i64 na, .string sa, .slice ao la.length cap] 47))) := ⟨0, rfl, by omega, Row.nil _ _, fun b h => by simp [Value.ownBlock] at h, Below.refl _ _⟩
  go_loopg [3, 10] la.length (fun k s3 s10 wr => TxtLoop F (w.heap.size + 1) (w.alloc (.cells #[.int .i64 0, .int .i64 na, .string sa, .slice ao la.length cap] 47)) la k s3 s10 wr)
  case atStart => exact HL.out
  case round =>
    clear HL
    obtain ⟨i, rfl, hik, hrow, hob, hb⟩ := hrel
    have HB := Lib.hid hb
    have HR := Lib.hid hrow
    have HO := Lib.hid hob
    have hb0 : Below (w.alloc (.cells #[.int .i64 0, .int .i64 na, .string sa, .slice ao la.length cap] 47)).heap.size (w.alloc (.cells #[.int .i64 0, .int .i64 na, .string sa, .slice ao la.length cap] 47)) wr := by simpa using hb
    obtain ⟨c0, c1, c2, c3, hb6⟩ := cells_below hb0
    clear hb0
    have H6 := Lib.hid hb6
    have HS1 : Hid (w.heap.size + 1 ≤ wr.heap.size) := by have := HB.out.size; show _ ≤ _; simpa using this
    clear hb hrow hob hb6
    by_cases hlt : i < la.length
    · obtain ⟨tk, htk⟩ : ∃ u, la[i]? = some u := ⟨_, List.getElem?_eq_getElem hlt⟩
      obtain ⟨bb, oo, _, _, _, _, rfl, hbb, _⟩ := a7.get htk
      obtain ⟨_, aok, capk, p0, p1, p2, p3, hvk⟩ := a7.cells htk
      unfold vval at hvk
      rw [Nat.zero_add] at p0 p1 p2 p3
      have hbb' := hP _ hbb
      have cc : ∀ j, wr.cell? ⟨bb, j, none⟩ = w.cell? ⟨bb, j, none⟩ := fun j => H6.out.cell (p := ⟨bb, j, none⟩) hbb'
      replace p0 := (cc _).trans p0
      replace p1 := (cc _).trans p1
      replace p2 := (cc _).trans p2
      replace p3 := (cc _).trans p3
      have hvk' : Hid (ValIs wr P tk (.agg #[.int .i64 tk.kind, .int .i64 tk.num, .string tk.text, .slice aok tk.kids.length capk])) := hvk.below H6.out hP
      have hkid : Hid (tk.sz ≤ k) := by
        have h5 : tk.sz < (VT.node 0 na sa la).sz := VT.sz_kid (t := VT.node 0 na sa la) htk
        show tk.sz ≤ k; omega
      have hrk := Lib.hid (VT.rights_get hrs.out htk)
      have hflk : Hid (Fl = true ∨ tk.noFl = true) := HFL.out.imp id fun h => VT.noFls_get h htk
      have htl : Hid ((tk.txt F).length ≤ 1000000) := Nat.le_trans (join_le [44] (i := i) (by rw [VT.txts_map, List.getElem?_map, htk]; rfl)) HJ.out
      have hnext := Lib.hid (txts_next F htk)
      have hsl : Hid ((svals (VT.txts F (la.take i))).length = i) := by show _ = _; rw [svals_length, VT.txts_map, List.length_map, List.length_take]; omega
      have g1' : (i : Int) < (la.length : Int) := by omega
      have hi0 : (0 : Int) ≤ (i : Int) := by omega
      clear hvk htk cc
      go_wp2_with (first
        | ((go_at_call 37; refine (ih tk _ _ P (d + 1) hkid.out hrk.out hflk.out (hvk'.out.below ((Below.refl _ _).alloc (Nat.le_refl _) _) (fun b hb => Nat.lt_of_lt_of_le (hP b hb) H6.out.size)) (fun x hx => by have := hP x hx; have := H6.out.size; simp; omega) (HW.out.trans ((H6.out.trans (((Below.refl _ _).alloc (Nat.le_refl _) _).mono H6.out.size)).mono HW.out.size)) htl.out).mono ?_; rintro e w7 ⟨rfl, hb7⟩; have HB7 := Lib.hid hb7; have B7 : Hid (Below wr.heap.size wr w7) := ((Below.refl _ _).alloc (Nat.le_refl _) _).trans (hb7.mono (by simp)); clear hb7))
        | (at_builtin; (refine wpList_app _ rfl _ _ 118 rfl 9 (.string ⟨#[]⟩) 16 Tryz.underlying118 infoS rfl u3 (svals (VT.txts F (la.take i))) rfl (World.ownsRow.alloc (HR.out.chg (F := []) ⟨B7.out.os, B7.out.tape, B7.out.output, B7.out.size, fun i hi _ => B7.out.block i hi⟩ (fun _ _ => by simp)) _) ⟨w7.heap.size, 0, none⟩ 1 1 [.string (bytes (tk.txt F))] rfl (by omega) rfl (cell_one_new _ _ _) (by intro u hu; simp at hu; rw [hu]; rfl) (by have := hsl.out; omega) (by omega) ?_; intro g cap9 w9 hr9 hg9 hl9)))
      have hbe : Hid (Below (w.heap.size + 1) wr w9) := by
        have hc : Chg u3.ownBlock.toList w7 w9 := ((Chg.refl _ w7).alloc _).grown hg9 (fun k hk => .inl (by simp [hk]))
        exact (B7.out.mono HS1.out).trans (hc.below (Nat.le_trans HS1.out B7.out.size) (fun k hk => HO.out k (by simpa using hk)))
      go_roundg (gk - 1)
      case measure => omega
      case rel =>
        refine ⟨i + 1, by go_num, by omega, by rw [hnext.out]; exact hr9, ?_, HB.out.trans hbe.out⟩
        intro b hb
        simp only [Value.ownBlock, Option.some.injEq] at hb
        subst hb
        rcases hl9 with e | e
        · exact HO.out _ e
        · have := HS1.out; have := B7.out.size; simp at e; omega
    · obtain rfl : i = la.length := by omega
      have HR2 : Hid (Row wr 9 u3 (svals (VT.txts F la))) := by have := HR.out; rwa [List.take_length] at this
      have HJN := Lib.hid (join_row HR2.out HJ.out (by omega))
      have hlu : ∃ ao3 cap3, u3 = .slice ao3 la.length cap3 := by
        obtain ⟨ao3, cap3, h, _⟩ := HR2.out.form
        exact ⟨ao3, cap3, by rw [h, svals_length, VT.txts_map, List.length_map]⟩
      have HN1 : ∀ s : ByteArray, s.size ≤ 2000000 → ¬ 9223372036854775807 < s.size + 1 := fun s h => by omega
      have hj1 : ¬ 9223372036854775807 < 1 + (bytes (Lib.join (VT.txts F la) [44])).size := by rw [bytes_size]; have := HJ.out; omega
      have hj2 : ¬ 9223372036854775807 < 1 + (bytes (Lib.join (VT.txts F la) [44])).size + 1 := by rw [bytes_size]; have := HJ.out; omega
      generalize hjj : bytes (Lib.join (VT.txts F la) [44]) = jj at HJN hj1 hj2
      have HJJ := Lib.hid hjj
      clear hjj HN1
      obtain ⟨ao3, cap3, rfl⟩ := hlu
      go_wp2_with (first
        | (go_at_call 56; refine HJN.out.mono ?_; rintro e w5 ⟨rfl, hb5⟩; have H5 := Lib.hid (H6.out.trans (hb5.mono H6.out.size)); have HBJ : Hid (Below (w.alloc (.cells #[.int .i64 0, .int .i64 na, .string sa, .slice ao la.length cap] 47)).heap.size (w.alloc (.cells #[.int .i64 0, .int .i64 na, .string sa, .slice ao la.length cap] 47)) w5) := (by have := HB.out.trans (hb5.mono HS1.out); show Below _ _ _; simpa using this); obtain ⟨d0, d1, d2, d3, _⟩ := cells_below HBJ.out; clear hb5)
        | (go_at_call 36; refine (numText_any na _ (HT.out _ H5.out)).mono ?_; rintro e w7 ⟨rfl, hb7⟩; have H7 := Lib.hid (H5.out.trans (hb7.mono H5.out.size)); clear hb7))
      all_goals
        go_ret
        refine ⟨ret_str ?_, H7.out⟩
        rw [HX.out]
        rfl
include hT ih in
set_option maxRecDepth 100000 in
set_option maxHeartbeats 3200000 in
theorem text_2 (na : Int) (sa : ByteArray) (la : List VT) (w : World) (P : Nat → Prop) (d : Int) (ao : Option Addr) (cap : Nat) (hk : (VT.node 2 na sa la).sz ≤ k + 1) (hr : (VT.node 2 na sa la).right d = true) (hfl : Fl = true ∨ (VT.node 2 na sa la).noFl = true)
    (a1 : la.length ≤ cap) (a2 : cap ≤ maxLen) (a7 : KidsAt w P la ao 0) (hP : ∀ x, P x → x < w.heap.size) (hw : Below w0.heap.size w0 w) (hlen : ((VT.node 2 na sa la).txt F).length ≤ 1000000) :
    Calls Tryz.prog 37 #[.agg #[.int .i64 2, .int .i64 na, .string sa, .slice ao la.length cap]] w fun e w' => e = .returned (.string (bytes ((VT.node 2 na sa la).txt F))) ∧ Below w.heap.size w w' := by
  obtain ⟨hf, hrs', hd⟩ := VT.right_parts hr
  have hrs := Lib.hid hrs'
  have hfp := fits_parts hf
  have hl8 : la.length ≤ 8 := hfp.2.2.1
  have HFL : Hid (Fl = true ∨ VT.noFls la = true) := hfl.imp id VT.noFl_kids
  have HX := Lib.hid (VT.txt_node F 2 na sa la)
  have HLEN : Hid ((topTxt F 2 na sa (Lib.join (VT.txts F la) [44]) la.length).length ≤ 1000000) := by rw [VT.txt_node] at hlen; exact hlen
  have HJ : Hid ((Lib.join (VT.txts F la) [44]).length ≤ 1000000) := by
    have : la = [] := List.length_eq_zero_iff.1 (fits_none hf (by decide) (by decide))
    subst this
    show _ ≤ _
    simp [VT.txts, Lib.join_nil]
  unfold maxLen at a2
  have HW := Lib.hid hw
  have HT : Hid (∀ W, Below w.heap.size w W → Tab W) := fun W hW => hT.below (hw.trans (hW.mono hw.size))

  clear hrs' hr hlen hw hT hfl hf
  go_enter Tryz.func37, Tryz.ntmps37
  go_wp2
  have HL : Hid (TxtLoop F (w.heap.size + 1) (w.alloc (.cells #[.int .i64 2, .int .i64 na, .string sa, .slice ao la.length cap] 47)) la la.length (.slice none 0 0) (.int .i64 0) (w.alloc (.cells #[.int .i64 2, .int .i64 na, .string sa, .slice ao la.length cap] 47))) := ⟨0, rfl, by omega, Row.nil _ _, fun b h => by simp [Value.ownBlock] at h, Below.refl _ _⟩
  go_loopg [3, 10] la.length (fun k s3 s10 wr => TxtLoop F (w.heap.size + 1) (w.alloc (.cells #[.int .i64 2, .int .i64 na, .string sa, .slice ao la.length cap] 47)) la k s3 s10 wr)
  case atStart => exact HL.out
  case round =>
    clear HL
    obtain ⟨i, rfl, hik, hrow, hob, hb⟩ := hrel
    have HB := Lib.hid hb
    have HR := Lib.hid hrow
    have HO := Lib.hid hob
    have hb0 : Below (w.alloc (.cells #[.int .i64 2, .int .i64 na, .string sa, .slice ao la.length cap] 47)).heap.size (w.alloc (.cells #[.int .i64 2, .int .i64 na, .string sa, .slice ao la.length cap] 47)) wr := by simpa using hb
    obtain ⟨c0, c1, c2, c3, hb6⟩ := cells_below hb0
    clear hb0
    have H6 := Lib.hid hb6
    have HS1 : Hid (w.heap.size + 1 ≤ wr.heap.size) := by have := HB.out.size; show _ ≤ _; simpa using this
    clear hb hrow hob hb6
    by_cases hlt : i < la.length
    · obtain ⟨tk, htk⟩ : ∃ u, la[i]? = some u := ⟨_, List.getElem?_eq_getElem hlt⟩
      obtain ⟨bb, oo, _, _, _, _, rfl, hbb, _⟩ := a7.get htk
      obtain ⟨_, aok, capk, p0, p1, p2, p3, hvk⟩ := a7.cells htk
      unfold vval at hvk
      rw [Nat.zero_add] at p0 p1 p2 p3
      have hbb' := hP _ hbb
      have cc : ∀ j, wr.cell? ⟨bb, j, none⟩ = w.cell? ⟨bb, j, none⟩ := fun j => H6.out.cell (p := ⟨bb, j, none⟩) hbb'
      replace p0 := (cc _).trans p0
      replace p1 := (cc _).trans p1
      replace p2 := (cc _).trans p2
      replace p3 := (cc _).trans p3
      have hvk' : Hid (ValIs wr P tk (.agg #[.int .i64 tk.kind, .int .i64 tk.num, .string tk.text, .slice aok tk.kids.length capk])) := hvk.below H6.out hP
      have hkid : Hid (tk.sz ≤ k) := by
        have h5 : tk.sz < (VT.node 2 na sa la).sz := VT.sz_kid (t := VT.node 2 na sa la) htk
        show tk.sz ≤ k; omega
      have hrk := Lib.hid (VT.rights_get hrs.out htk)
      have hflk : Hid (Fl = true ∨ tk.noFl = true) := HFL.out.imp id fun h => VT.noFls_get h htk
      have htl : Hid ((tk.txt F).length ≤ 1000000) := Nat.le_trans (join_le [44] (i := i) (by rw [VT.txts_map, List.getElem?_map, htk]; rfl)) HJ.out
      have hnext := Lib.hid (txts_next F htk)
      have hsl : Hid ((svals (VT.txts F (la.take i))).length = i) := by show _ = _; rw [svals_length, VT.txts_map, List.length_map, List.length_take]; omega
      have g1' : (i : Int) < (la.length : Int) := by omega
      have hi0 : (0 : Int) ≤ (i : Int) := by omega
      clear hvk htk cc
      go_wp2_with (first
        | ((go_at_call 37; refine (ih tk _ _ P (d + 1) hkid.out hrk.out hflk.out (hvk'.out.below ((Below.refl _ _).alloc (Nat.le_refl _) _) (fun b hb => Nat.lt_of_lt_of_le (hP b hb) H6.out.size)) (fun x hx => by have := hP x hx; have := H6.out.size; simp; omega) (HW.out.trans ((H6.out.trans (((Below.refl _ _).alloc (Nat.le_refl _) _).mono H6.out.size)).mono HW.out.size)) htl.out).mono ?_; rintro e w7 ⟨rfl, hb7⟩; have HB7 := Lib.hid hb7; have B7 : Hid (Below wr.heap.size wr w7) := ((Below.refl _ _).alloc (Nat.le_refl _) _).trans (hb7.mono (by simp)); clear hb7))
        | (at_builtin; (refine wpList_app _ rfl _ _ 118 rfl 9 (.string ⟨#[]⟩) 16 Tryz.underlying118 infoS rfl u3 (svals (VT.txts F (la.take i))) rfl (World.ownsRow.alloc (HR.out.chg (F := []) ⟨B7.out.os, B7.out.tape, B7.out.output, B7.out.size, fun i hi _ => B7.out.block i hi⟩ (fun _ _ => by simp)) _) ⟨w7.heap.size, 0, none⟩ 1 1 [.string (bytes (tk.txt F))] rfl (by omega) rfl (cell_one_new _ _ _) (by intro u hu; simp at hu; rw [hu]; rfl) (by have := hsl.out; omega) (by omega) ?_; intro g cap9 w9 hr9 hg9 hl9)))
      have hbe : Hid (Below (w.heap.size + 1) wr w9) := by
        have hc : Chg u3.ownBlock.toList w7 w9 := ((Chg.refl _ w7).alloc _).grown hg9 (fun k hk => .inl (by simp [hk]))
        exact (B7.out.mono HS1.out).trans (hc.below (Nat.le_trans HS1.out B7.out.size) (fun k hk => HO.out k (by simpa using hk)))
      go_roundg (gk - 1)
      case measure => omega
      case rel =>
        refine ⟨i + 1, by go_num, by omega, by rw [hnext.out]; exact hr9, ?_, HB.out.trans hbe.out⟩
        intro b hb
        simp only [Value.ownBlock, Option.some.injEq] at hb
        subst hb
        rcases hl9 with e | e
        · exact HO.out _ e
        · have := HS1.out; have := B7.out.size; simp at e; omega
    · obtain rfl : i = la.length := by omega
      have HR2 : Hid (Row wr 9 u3 (svals (VT.txts F la))) := by have := HR.out; rwa [List.take_length] at this
      have HJN := Lib.hid (join_row HR2.out HJ.out (by omega))
      have hlu : ∃ ao3 cap3, u3 = .slice ao3 la.length cap3 := by
        obtain ⟨ao3, cap3, h, _⟩ := HR2.out.form
        exact ⟨ao3, cap3, by rw [h, svals_length, VT.txts_map, List.length_map]⟩
      have HN1 : ∀ s : ByteArray, s.size ≤ 2000000 → ¬ 9223372036854775807 < s.size + 1 := fun s h => by omega
      have hj1 : ¬ 9223372036854775807 < 1 + (bytes (Lib.join (VT.txts F la) [44])).size := by rw [bytes_size]; have := HJ.out; omega
      have hj2 : ¬ 9223372036854775807 < 1 + (bytes (Lib.join (VT.txts F la) [44])).size + 1 := by rw [bytes_size]; have := HJ.out; omega
      generalize hjj : bytes (Lib.join (VT.txts F la) [44]) = jj at HJN hj1 hj2
      have HJJ := Lib.hid hjj
      clear hjj HN1
      obtain ⟨ao3, cap3, rfl⟩ := hlu
      go_wp2_with (first
        | (go_at_call 56; refine HJN.out.mono ?_; rintro e w5 ⟨rfl, hb5⟩; have H5 := Lib.hid (H6.out.trans (hb5.mono H6.out.size)); have HBJ : Hid (Below (w.alloc (.cells #[.int .i64 2, .int .i64 na, .string sa, .slice ao la.length cap] 47)).heap.size (w.alloc (.cells #[.int .i64 2, .int .i64 na, .string sa, .slice ao la.length cap] 47)) w5) := (by have := HB.out.trans (hb5.mono HS1.out); show Below _ _ _; simpa using this); obtain ⟨d0, d1, d2, d3, _⟩ := cells_below HBJ.out; clear hb5)
        | (go_at_call 59; refine (quote_any sa _ (by have := hfp; omega)).mono ?_; rintro e w7 ⟨rfl, hb7⟩; have H7 := Lib.hid (H5.out.trans (hb7.mono H5.out.size)); clear hb7))
      all_goals
        go_ret
        refine ⟨ret_str ?_, H7.out⟩
        rw [HX.out]
        rfl
include hT ih in
set_option maxRecDepth 100000 in
set_option maxHeartbeats 3200000 in
theorem text_4 (na : Int) (sa : ByteArray) (la : List VT) (w : World) (P : Nat → Prop) (d : Int) (ao : Option Addr) (cap : Nat) (hk : (VT.node 4 na sa la).sz ≤ k + 1) (hr : (VT.node 4 na sa la).right d = true) (hfl : Fl = true ∨ (VT.node 4 na sa la).noFl = true)
    (a1 : la.length ≤ cap) (a2 : cap ≤ maxLen) (a7 : KidsAt w P la ao 0) (hP : ∀ x, P x → x < w.heap.size) (hw : Below w0.heap.size w0 w) (hlen : ((VT.node 4 na sa la).txt F).length ≤ 1000000) :
    Calls Tryz.prog 37 #[.agg #[.int .i64 4, .int .i64 na, .string sa, .slice ao la.length cap]] w fun e w' => e = .returned (.string (bytes ((VT.node 4 na sa la).txt F))) ∧ Below w.heap.size w w' := by
  obtain ⟨hf, hrs', hd⟩ := VT.right_parts hr
  have hrs := Lib.hid hrs'
  have hfp := fits_parts hf
  have hl8 : la.length ≤ 8 := hfp.2.2.1
  have HFL : Hid (Fl = true ∨ VT.noFls la = true) := hfl.imp id VT.noFl_kids
  have HX := Lib.hid (VT.txt_node F 4 na sa la)
  have HLEN : Hid ((topTxt F 4 na sa (Lib.join (VT.txts F la) [44]) la.length).length ≤ 1000000) := by rw [VT.txt_node] at hlen; exact hlen
  have HJ : Hid ((Lib.join (VT.txts F la) [44]).length ≤ 1000000) := by
    have := HLEN.out
    simp [topTxt] at this
    show _ ≤ _
    omega
  unfold maxLen at a2
  have HW := Lib.hid hw
  have HT : Hid (∀ W, Below w.heap.size w W → Tab W) := fun W hW => hT.below (hw.trans (hW.mono hw.size))

  clear hrs' hr hlen hw hT hfl hf
  go_enter Tryz.func37, Tryz.ntmps37
  go_wp2
  have HL : Hid (TxtLoop F (w.heap.size + 1) (w.alloc (.cells #[.int .i64 4, .int .i64 na, .string sa, .slice ao la.length cap] 47)) la la.length (.slice none 0 0) (.int .i64 0) (w.alloc (.cells #[.int .i64 4, .int .i64 na, .string sa, .slice ao la.length cap] 47))) := ⟨0, rfl, by omega, Row.nil _ _, fun b h => by simp [Value.ownBlock] at h, Below.refl _ _⟩
  go_loopg [3, 10] la.length (fun k s3 s10 wr => TxtLoop F (w.heap.size + 1) (w.alloc (.cells #[.int .i64 4, .int .i64 na, .string sa, .slice ao la.length cap] 47)) la k s3 s10 wr)
  case atStart => exact HL.out
  case round =>
    clear HL
    obtain ⟨i, rfl, hik, hrow, hob, hb⟩ := hrel
    have HB := Lib.hid hb
    have HR := Lib.hid hrow
    have HO := Lib.hid hob
    have hb0 : Below (w.alloc (.cells #[.int .i64 4, .int .i64 na, .string sa, .slice ao la.length cap] 47)).heap.size (w.alloc (.cells #[.int .i64 4, .int .i64 na, .string sa, .slice ao la.length cap] 47)) wr := by simpa using hb
    obtain ⟨c0, c1, c2, c3, hb6⟩ := cells_below hb0
    clear hb0
    have H6 := Lib.hid hb6
    have HS1 : Hid (w.heap.size + 1 ≤ wr.heap.size) := by have := HB.out.size; show _ ≤ _; simpa using this
    clear hb hrow hob hb6
    by_cases hlt : i < la.length
    · obtain ⟨tk, htk⟩ : ∃ u, la[i]? = some u := ⟨_, List.getElem?_eq_getElem hlt⟩
      obtain ⟨bb, oo, _, _, _, _, rfl, hbb, _⟩ := a7.get htk
      obtain ⟨_, aok, capk, p0, p1, p2, p3, hvk⟩ := a7.cells htk
      unfold vval at hvk
      rw [Nat.zero_add] at p0 p1 p2 p3
      have hbb' := hP _ hbb
      have cc : ∀ j, wr.cell? ⟨bb, j, none⟩ = w.cell? ⟨bb, j, none⟩ := fun j => H6.out.cell (p := ⟨bb, j, none⟩) hbb'
      replace p0 := (cc _).trans p0
      replace p1 := (cc _).trans p1
      replace p2 := (cc _).trans p2
      replace p3 := (cc _).trans p3
      have hvk' : Hid (ValIs wr P tk (.agg #[.int .i64 tk.kind, .int .i64 tk.num, .string tk.text, .slice aok tk.kids.length capk])) := hvk.below H6.out hP
      have hkid : Hid (tk.sz ≤ k) := by
        have h5 : tk.sz < (VT.node 4 na sa la).sz := VT.sz_kid (t := VT.node 4 na sa la) htk
        show tk.sz ≤ k; omega
      have hrk := Lib.hid (VT.rights_get hrs.out htk)
      have hflk : Hid (Fl = true ∨ tk.noFl = true) := HFL.out.imp id fun h => VT.noFls_get h htk
      have htl : Hid ((tk.txt F).length ≤ 1000000) := Nat.le_trans (join_le [44] (i := i) (by rw [VT.txts_map, List.getElem?_map, htk]; rfl)) HJ.out
      have hnext := Lib.hid (txts_next F htk)
      have hsl : Hid ((svals (VT.txts F (la.take i))).length = i) := by show _ = _; rw [svals_length, VT.txts_map, List.length_map, List.length_take]; omega
      have g1' : (i : Int) < (la.length : Int) := by omega
      have hi0 : (0 : Int) ≤ (i : Int) := by omega
      clear hvk htk cc
      go_wp2_with (first
        | ((go_at_call 37; refine (ih tk _ _ P (d + 1) hkid.out hrk.out hflk.out (hvk'.out.below ((Below.refl _ _).alloc (Nat.le_refl _) _) (fun b hb => Nat.lt_of_lt_of_le (hP b hb) H6.out.size)) (fun x hx => by have := hP x hx; have := H6.out.size; simp; omega) (HW.out.trans ((H6.out.trans (((Below.refl _ _).alloc (Nat.le_refl _) _).mono H6.out.size)).mono HW.out.size)) htl.out).mono ?_; rintro e w7 ⟨rfl, hb7⟩; have HB7 := Lib.hid hb7; have B7 : Hid (Below wr.heap.size wr w7) := ((Below.refl _ _).alloc (Nat.le_refl _) _).trans (hb7.mono (by simp)); clear hb7))
        | (at_builtin; (refine wpList_app _ rfl _ _ 118 rfl 9 (.string ⟨#[]⟩) 16 Tryz.underlying118 infoS rfl u3 (svals (VT.txts F (la.take i))) rfl (World.ownsRow.alloc (HR.out.chg (F := []) ⟨B7.out.os, B7.out.tape, B7.out.output, B7.out.size, fun i hi _ => B7.out.block i hi⟩ (fun _ _ => by simp)) _) ⟨w7.heap.size, 0, none⟩ 1 1 [.string (bytes (tk.txt F))] rfl (by omega) rfl (cell_one_new _ _ _) (by intro u hu; simp at hu; rw [hu]; rfl) (by have := hsl.out; omega) (by omega) ?_; intro g cap9 w9 hr9 hg9 hl9)))
      have hbe : Hid (Below (w.heap.size + 1) wr w9) := by
        have hc : Chg u3.ownBlock.toList w7 w9 := ((Chg.refl _ w7).alloc _).grown hg9 (fun k hk => .inl (by simp [hk]))
        exact (B7.out.mono HS1.out).trans (hc.below (Nat.le_trans HS1.out B7.out.size) (fun k hk => HO.out k (by simpa using hk)))
      go_roundg (gk - 1)
      case measure => omega
      case rel =>
        refine ⟨i + 1, by go_num, by omega, by rw [hnext.out]; exact hr9, ?_, HB.out.trans hbe.out⟩
        intro b hb
        simp only [Value.ownBlock, Option.some.injEq] at hb
        subst hb
        rcases hl9 with e | e
        · exact HO.out _ e
        · have := HS1.out; have := B7.out.size; simp at e; omega
    · obtain rfl : i = la.length := by omega
      have HR2 : Hid (Row wr 9 u3 (svals (VT.txts F la))) := by have := HR.out; rwa [List.take_length] at this
      have HJN := Lib.hid (join_row HR2.out HJ.out (by omega))
      have hlu : ∃ ao3 cap3, u3 = .slice ao3 la.length cap3 := by
        obtain ⟨ao3, cap3, h, _⟩ := HR2.out.form
        exact ⟨ao3, cap3, by rw [h, svals_length, VT.txts_map, List.length_map]⟩
      have HN1 : ∀ s : ByteArray, s.size ≤ 2000000 → ¬ 9223372036854775807 < s.size + 1 := fun s h => by omega
      have hj1 : ¬ 9223372036854775807 < 1 + (bytes (Lib.join (VT.txts F la) [44])).size := by rw [bytes_size]; have := HJ.out; omega
      have hj2 : ¬ 9223372036854775807 < 1 + (bytes (Lib.join (VT.txts F la) [44])).size + 1 := by rw [bytes_size]; have := HJ.out; omega
      generalize hjj : bytes (Lib.join (VT.txts F la) [44]) = jj at HJN hj1 hj2
      have HJJ := Lib.hid hjj
      clear hjj HN1
      obtain ⟨ao3, cap3, rfl⟩ := hlu
      go_wp2_with (first
        | (go_at_call 56; refine HJN.out.mono ?_; rintro e w5 ⟨rfl, hb5⟩; have H5 := Lib.hid (H6.out.trans (hb5.mono H6.out.size)); have HBJ : Hid (Below (w.alloc (.cells #[.int .i64 4, .int .i64 na, .string sa, .slice ao la.length cap] 47)).heap.size (w.alloc (.cells #[.int .i64 4, .int .i64 na, .string sa, .slice ao la.length cap] 47)) w5) := (by have := HB.out.trans (hb5.mono HS1.out); show Below _ _ _; simpa using this); obtain ⟨d0, d1, d2, d3, _⟩ := cells_below HBJ.out; clear hb5))
      all_goals
        go_ret
        refine ⟨ret_str ?_, H5.out⟩
        rw [HX.out]
        rw [← HJJ.out]
        apply Go.WideShapes.bytes_inj
        simp [bytes, topTxt]
include hT ih in
set_option maxRecDepth 100000 in
set_option maxHeartbeats 3200000 in
theorem text_5 (na : Int) (sa : ByteArray) (la : List VT) (w : World) (P : Nat → Prop) (d : Int) (ao : Option Addr) (cap : Nat) (hk : (VT.node 5 na sa la).sz ≤ k + 1) (hr : (VT.node 5 na sa la).right d = true) (hfl : Fl = true ∨ (VT.node 5 na sa la).noFl = true)
    (a1 : la.length ≤ cap) (a2 : cap ≤ maxLen) (a7 : KidsAt w P la ao 0) (hP : ∀ x, P x → x < w.heap.size) (hw : Below w0.heap.size w0 w) (hlen : ((VT.node 5 na sa la).txt F).length ≤ 1000000) :
    Calls Tryz.prog 37 #[.agg #[.int .i64 5, .int .i64 na, .string sa, .slice ao la.length cap]] w fun e w' => e = .returned (.string (bytes ((VT.node 5 na sa la).txt F))) ∧ Below w.heap.size w w' := by
  obtain ⟨hf, hrs', hd⟩ := VT.right_parts hr
  have hrs := Lib.hid hrs'
  have hfp := fits_parts hf
  have hl8 : la.length ≤ 8 := hfp.2.2.1
  have HFL : Hid (Fl = true ∨ VT.noFls la = true) := hfl.imp id VT.noFl_kids
  have HX := Lib.hid (VT.txt_node F 5 na sa la)
  have HLEN : Hid ((topTxt F 5 na sa (Lib.join (VT.txts F la) [44]) la.length).length ≤ 1000000) := by rw [VT.txt_node] at hlen; exact hlen
  have HJ : Hid ((Lib.join (VT.txts F la) [44]).length ≤ 1000000) := by
    have : la = [] := List.length_eq_zero_iff.1 (fits_none hf (by decide) (by decide))
    subst this
    show _ ≤ _
    simp [VT.txts, Lib.join_nil]
  unfold maxLen at a2
  have HW := Lib.hid hw
  have HT : Hid (∀ W, Below w.heap.size w W → Tab W) := fun W hW => hT.below (hw.trans (hW.mono hw.size))
  have hni : Hid ((Lib.itoa (wr na)).length ≤ 21) := Lib.itoa_length_le _ (by have := wr_ge na; omega) (by have := wr_le na; omega)
  have hn1 : ¬ 9223372036854775807 < 1 + (bytes (Lib.itoa (wr na))).size := by rw [bytes_size]; have := hni.out; omega

  clear hrs' hr hlen hw hT hfl hf
  go_enter Tryz.func37, Tryz.ntmps37
  go_wp2
  have HL : Hid (TxtLoop F (w.heap.size + 1) (w.alloc (.cells #[.int .i64 5, .int .i64 na, .string sa, .slice ao la.length cap] 47)) la la.length (.slice none 0 0) (.int .i64 0) (w.alloc (.cells #[.int .i64 5, .int .i64 na, .string sa, .slice ao la.length cap] 47))) := ⟨0, rfl, by omega, Row.nil _ _, fun b h => by simp [Value.ownBlock] at h, Below.refl _ _⟩
  go_loopg [3, 10] la.length (fun k s3 s10 wr => TxtLoop F (w.heap.size + 1) (w.alloc (.cells #[.int .i64 5, .int .i64 na, .string sa, .slice ao la.length cap] 47)) la k s3 s10 wr)
  case atStart => exact HL.out
  case round =>
    clear HL
    obtain ⟨i, rfl, hik, hrow, hob, hb⟩ := hrel
    have HB := Lib.hid hb
    have HR := Lib.hid hrow
    have HO := Lib.hid hob
    have hb0 : Below (w.alloc (.cells #[.int .i64 5, .int .i64 na, .string sa, .slice ao la.length cap] 47)).heap.size (w.alloc (.cells #[.int .i64 5, .int .i64 na, .string sa, .slice ao la.length cap] 47)) wr := by simpa using hb
    obtain ⟨c0, c1, c2, c3, hb6⟩ := cells_below hb0
    clear hb0
    have H6 := Lib.hid hb6
    have HS1 : Hid (w.heap.size + 1 ≤ wr.heap.size) := by have := HB.out.size; show _ ≤ _; simpa using this
    clear hb hrow hob hb6
    by_cases hlt : i < la.length
    · obtain ⟨tk, htk⟩ : ∃ u, la[i]? = some u := ⟨_, List.getElem?_eq_getElem hlt⟩
      obtain ⟨bb, oo, _, _, _, _, rfl, hbb, _⟩ := a7.get htk
      obtain ⟨_, aok, capk, p0, p1, p2, p3, hvk⟩ := a7.cells htk
      unfold vval at hvk
      rw [Nat.zero_add] at p0 p1 p2 p3
      have hbb' := hP _ hbb
      have cc : ∀ j, wr.cell? ⟨bb, j, none⟩ = w.cell? ⟨bb, j, none⟩ := fun j => H6.out.cell (p := ⟨bb, j, none⟩) hbb'
      replace p0 := (cc _).trans p0
      replace p1 := (cc _).trans p1
      replace p2 := (cc _).trans p2
      replace p3 := (cc _).trans p3
      have hvk' : Hid (ValIs wr P tk (.agg #[.int .i64 tk.kind, .int .i64 tk.num, .string tk.text, .slice aok tk.kids.length capk])) := hvk.below H6.out hP
      have hkid : Hid (tk.sz ≤ k) := by
        have h5 : tk.sz < (VT.node 5 na sa la).sz := VT.sz_kid (t := VT.node 5 na sa la) htk
        show tk.sz ≤ k; omega
      have hrk := Lib.hid (VT.rights_get hrs.out htk)
      have hflk : Hid (Fl = true ∨ tk.noFl = true) := HFL.out.imp id fun h => VT.noFls_get h htk
      have htl : Hid ((tk.txt F).length ≤ 1000000) := Nat.le_trans (join_le [44] (i := i) (by rw [VT.txts_map, List.getElem?_map, htk]; rfl)) HJ.out
      have hnext := Lib.hid (txts_next F htk)
      have hsl : Hid ((svals (VT.txts F (la.take i))).length = i) := by show _ = _; rw [svals_length, VT.txts_map, List.length_map, List.length_take]; omega
      have g1' : (i : Int) < (la.length : Int) := by omega
      have hi0 : (0 : Int) ≤ (i : Int) := by omega
      clear hvk htk cc
      go_wp2_with (first
        | ((go_at_call 37; refine (ih tk _ _ P (d + 1) hkid.out hrk.out hflk.out (hvk'.out.below ((Below.refl _ _).alloc (Nat.le_refl _) _) (fun b hb => Nat.lt_of_lt_of_le (hP b hb) H6.out.size)) (fun x hx => by have := hP x hx; have := H6.out.size; simp; omega) (HW.out.trans ((H6.out.trans (((Below.refl _ _).alloc (Nat.le_refl _) _).mono H6.out.size)).mono HW.out.size)) htl.out).mono ?_; rintro e w7 ⟨rfl, hb7⟩; have HB7 := Lib.hid hb7; have B7 : Hid (Below wr.heap.size wr w7) := ((Below.refl _ _).alloc (Nat.le_refl _) _).trans (hb7.mono (by simp)); clear hb7))
        | (at_builtin; (refine wpList_app _ rfl _ _ 118 rfl 9 (.string ⟨#[]⟩) 16 Tryz.underlying118 infoS rfl u3 (svals (VT.txts F (la.take i))) rfl (World.ownsRow.alloc (HR.out.chg (F := []) ⟨B7.out.os, B7.out.tape, B7.out.output, B7.out.size, fun i hi _ => B7.out.block i hi⟩ (fun _ _ => by simp)) _) ⟨w7.heap.size, 0, none⟩ 1 1 [.string (bytes (tk.txt F))] rfl (by omega) rfl (cell_one_new _ _ _) (by intro u hu; simp at hu; rw [hu]; rfl) (by have := hsl.out; omega) (by omega) ?_; intro g cap9 w9 hr9 hg9 hl9)))
      have hbe : Hid (Below (w.heap.size + 1) wr w9) := by
        have hc : Chg u3.ownBlock.toList w7 w9 := ((Chg.refl _ w7).alloc _).grown hg9 (fun k hk => .inl (by simp [hk]))
        exact (B7.out.mono HS1.out).trans (hc.below (Nat.le_trans HS1.out B7.out.size) (fun k hk => HO.out k (by simpa using hk)))
      go_roundg (gk - 1)
      case measure => omega
      case rel =>
        refine ⟨i + 1, by go_num, by omega, by rw [hnext.out]; exact hr9, ?_, HB.out.trans hbe.out⟩
        intro b hb
        simp only [Value.ownBlock, Option.some.injEq] at hb
        subst hb
        rcases hl9 with e | e
        · exact HO.out _ e
        · have := HS1.out; have := B7.out.size; simp at e; omega
    · obtain rfl : i = la.length := by omega
      have HR2 : Hid (Row wr 9 u3 (svals (VT.txts F la))) := by have := HR.out; rwa [List.take_length] at this
      have HJN := Lib.hid (join_row HR2.out HJ.out (by omega))
      have hlu : ∃ ao3 cap3, u3 = .slice ao3 la.length cap3 := by
        obtain ⟨ao3, cap3, h, _⟩ := HR2.out.form
        exact ⟨ao3, cap3, by rw [h, svals_length, VT.txts_map, List.length_map]⟩
      have HN1 : ∀ s : ByteArray, s.size ≤ 2000000 → ¬ 9223372036854775807 < s.size + 1 := fun s h => by omega
      have hj1 : ¬ 9223372036854775807 < 1 + (bytes (Lib.join (VT.txts F la) [44])).size := by rw [bytes_size]; have := HJ.out; omega
      have hj2 : ¬ 9223372036854775807 < 1 + (bytes (Lib.join (VT.txts F la) [44])).size + 1 := by rw [bytes_size]; have := HJ.out; omega
      generalize hjj : bytes (Lib.join (VT.txts F la) [44]) = jj at HJN hj1 hj2
      have HJJ := Lib.hid hjj
      clear hjj HN1
      obtain ⟨ao3, cap3, rfl⟩ := hlu
      go_wp2_with (first
        | (go_at_call 56; refine HJN.out.mono ?_; rintro e w5 ⟨rfl, hb5⟩; have H5 := Lib.hid (H6.out.trans (hb5.mono H6.out.size)); have HBJ : Hid (Below (w.alloc (.cells #[.int .i64 5, .int .i64 na, .string sa, .slice ao la.length cap] 47)).heap.size (w.alloc (.cells #[.int .i64 5, .int .i64 na, .string sa, .slice ao la.length cap] 47)) w5) := (by have := HB.out.trans (hb5.mono HS1.out); show Below _ _ _; simpa using this); obtain ⟨d0, d1, d2, d3, _⟩ := cells_below HBJ.out; clear hb5)
        | (go_at_call 36; refine (numText_any na _ (HT.out _ H5.out)).mono ?_; rintro e w7 ⟨rfl, hb7⟩; have H7 := Lib.hid (H5.out.trans (hb7.mono H5.out.size)); clear hb7))
      all_goals
        go_ret
        refine ⟨ret_str ?_, H7.out⟩
        rw [HX.out]
        apply Go.WideShapes.bytes_inj
        simp [bytes, topTxt]
include hT ih in
set_option maxRecDepth 100000 in
set_option maxHeartbeats 3200000 in
theorem text_6 (na : Int) (sa : ByteArray) (la : List VT) (w : World) (P : Nat → Prop) (d : Int) (ao : Option Addr) (cap : Nat) (hk : (VT.node 6 na sa la).sz ≤ k + 1) (hr : (VT.node 6 na sa la).right d = true) (hfl : Fl = true ∨ (VT.node 6 na sa la).noFl = true)
    (a1 : la.length ≤ cap) (a2 : cap ≤ maxLen) (a7 : KidsAt w P la ao 0) (hP : ∀ x, P x → x < w.heap.size) (hw : Below w0.heap.size w0 w) (hlen : ((VT.node 6 na sa la).txt F).length ≤ 1000000) :
    Calls Tryz.prog 37 #[.agg #[.int .i64 6, .int .i64 na, .string sa, .slice ao la.length cap]] w fun e w' => e = .returned (.string (bytes ((VT.node 6 na sa la).txt F))) ∧ Below w.heap.size w w' := by
  obtain ⟨hf, hrs', hd⟩ := VT.right_parts hr
  have hrs := Lib.hid hrs'
  have hfp := fits_parts hf
  have hl8 : la.length ≤ 8 := hfp.2.2.1
  have HFL : Hid (Fl = true ∨ VT.noFls la = true) := hfl.imp id VT.noFl_kids
  have HX := Lib.hid (VT.txt_node F 6 na sa la)
  have HLEN : Hid ((topTxt F 6 na sa (Lib.join (VT.txts F la) [44]) la.length).length ≤ 1000000) := by rw [VT.txt_node] at hlen; exact hlen
  have HJ : Hid ((Lib.join (VT.txts F la) [44]).length ≤ 1000000) := by
    have : la = [] := List.length_eq_zero_iff.1 (fits_none hf (by decide) (by decide))
    subst this
    show _ ≤ _
    simp [VT.txts, Lib.join_nil]
  unfold maxLen at a2
  have HW := Lib.hid hw
  have HT : Hid (∀ W, Below w.heap.size w W → Tab W) := fun W hW => hT.below (hw.trans (hW.mono hw.size))

  clear hrs' hr hlen hw hT hfl hf
  go_enter Tryz.func37, Tryz.ntmps37
  go_wp2
  have HL : Hid (TxtLoop F (w.heap.size + 1) (w.alloc (.cells #[.int .i64 6, .int .i64 na, .string sa, .slice ao la.length cap] 47)) la la.length (.slice none 0 0) (.int .i64 0) (w.alloc (.cells #[.int .i64 6, .int .i64 na, .string sa, .slice ao la.length cap] 47))) := ⟨0, rfl, by omega, Row.nil _ _, fun b h => by simp [Value.ownBlock] at h, Below.refl _ _⟩
  go_loopg [3, 10] la.length (fun k s3 s10 wr => TxtLoop F (w.heap.size + 1) (w.alloc (.cells #[.int .i64 6, .int .i64 na, .string sa, .slice ao la.length cap] 47)) la k s3 s10 wr)
  case atStart => exact HL.out
  case round =>
    clear HL
    obtain ⟨i, rfl, hik, hrow, hob, hb⟩ := hrel
    have HB := Lib.hid hb
    have HR := Lib.hid hrow
    have HO := Lib.hid hob
    have hb0 : Below (w.alloc (.cells #[.int .i64 6, .int .i64 na, .string sa, .slice ao la.length cap] 47)).heap.size (w.alloc (.cells #[.int .i64 6, .int .i64 na, .string sa, .slice ao la.length cap] 47)) wr := by simpa using hb
    obtain ⟨c0, c1, c2, c3, hb6⟩ := cells_below hb0
    clear hb0
    have H6 := Lib.hid hb6
    have HS1 : Hid (w.heap.size + 1 ≤ wr.heap.size) := by have := HB.out.size; show _ ≤ _; simpa using this
    clear hb hrow hob hb6
    by_cases hlt : i < la.length
    · obtain ⟨tk, htk⟩ : ∃ u, la[i]? = some u := ⟨_, List.getElem?_eq_getElem hlt⟩
      obtain ⟨bb, oo, _, _, _, _, rfl, hbb, _⟩ := a7.get htk
      obtain ⟨_, aok, capk, p0, p1, p2, p3, hvk⟩ := a7.cells htk
      unfold vval at hvk
      rw [Nat.zero_add] at p0 p1 p2 p3
      have hbb' := hP _ hbb
      have cc : ∀ j, wr.cell? ⟨bb, j, none⟩ = w.cell? ⟨bb, j, none⟩ := fun j => H6.out.cell (p := ⟨bb, j, none⟩) hbb'
      replace p0 := (cc _).trans p0
      replace p1 := (cc _).trans p1
      replace p2 := (cc _).trans p2
      replace p3 := (cc _).trans p3
      have hvk' : Hid (ValIs wr P tk (.agg #[.int .i64 tk.kind, .int .i64 tk.num, .string tk.text, .slice aok tk.kids.length capk])) := hvk.below H6.out hP
      have hkid : Hid (tk.sz ≤ k) := by
        have h5 : tk.sz < (VT.node 6 na sa la).sz := VT.sz_kid (t := VT.node 6 na sa la) htk
        show tk.sz ≤ k; omega
      have hrk := Lib.hid (VT.rights_get hrs.out htk)
      have hflk : Hid (Fl = true ∨ tk.noFl = true) := HFL.out.imp id fun h => VT.noFls_get h htk
      have htl : Hid ((tk.txt F).length ≤ 1000000) := Nat.le_trans (join_le [44] (i := i) (by rw [VT.txts_map, List.getElem?_map, htk]; rfl)) HJ.out
      have hnext := Lib.hid (txts_next F htk)
      have hsl : Hid ((svals (VT.txts F (la.take i))).length = i) := by show _ = _; rw [svals_length, VT.txts_map, List.length_map, List.length_take]; omega
      have g1' : (i : Int) < (la.length : Int) := by omega
      have hi0 : (0 : Int) ≤ (i : Int) := by omega
      clear hvk htk cc
      go_wp2_with (first
        | ((go_at_call 37; refine (ih tk _ _ P (d + 1) hkid.out hrk.out hflk.out (hvk'.out.below ((Below.refl _ _).alloc (Nat.le_refl _) _) (fun b hb => Nat.lt_of_lt_of_le (hP b hb) H6.out.size)) (fun x hx => by have := hP x hx; have := H6.out.size; simp; omega) (HW.out.trans ((H6.out.trans (((Below.refl _ _).alloc (Nat.le_refl _) _).mono H6.out.size)).mono HW.out.size)) htl.out).mono ?_; rintro e w7 ⟨rfl, hb7⟩; have HB7 := Lib.hid hb7; have B7 : Hid (Below wr.heap.size wr w7) := ((Below.refl _ _).alloc (Nat.le_refl _) _).trans (hb7.mono (by simp)); clear hb7))
        | (at_builtin; (refine wpList_app _ rfl _ _ 118 rfl 9 (.string ⟨#[]⟩) 16 Tryz.underlying118 infoS rfl u3 (svals (VT.txts F (la.take i))) rfl (World.ownsRow.alloc (HR.out.chg (F := []) ⟨B7.out.os, B7.out.tape, B7.out.output, B7.out.size, fun i hi _ => B7.out.block i hi⟩ (fun _ _ => by simp)) _) ⟨w7.heap.size, 0, none⟩ 1 1 [.string (bytes (tk.txt F))] rfl (by omega) rfl (cell_one_new _ _ _) (by intro u hu; simp at hu; rw [hu]; rfl) (by have := hsl.out; omega) (by omega) ?_; intro g cap9 w9 hr9 hg9 hl9)))
      have hbe : Hid (Below (w.heap.size + 1) wr w9) := by
        have hc : Chg u3.ownBlock.toList w7 w9 := ((Chg.refl _ w7).alloc _).grown hg9 (fun k hk => .inl (by simp [hk]))
        exact (B7.out.mono HS1.out).trans (hc.below (Nat.le_trans HS1.out B7.out.size) (fun k hk => HO.out k (by simpa using hk)))
      go_roundg (gk - 1)
      case measure => omega
      case rel =>
        refine ⟨i + 1, by go_num, by omega, by rw [hnext.out]; exact hr9, ?_, HB.out.trans hbe.out⟩
        intro b hb
        simp only [Value.ownBlock, Option.some.injEq] at hb
        subst hb
        rcases hl9 with e | e
        · exact HO.out _ e
        · have := HS1.out; have := B7.out.size; simp at e; omega
    · obtain rfl : i = la.length := by omega
      have HR2 : Hid (Row wr 9 u3 (svals (VT.txts F la))) := by have := HR.out; rwa [List.take_length] at this
      have HJN := Lib.hid (join_row HR2.out HJ.out (by omega))
      have hlu : ∃ ao3 cap3, u3 = .slice ao3 la.length cap3 := by
        obtain ⟨ao3, cap3, h, _⟩ := HR2.out.form
        exact ⟨ao3, cap3, by rw [h, svals_length, VT.txts_map, List.length_map]⟩
      have HN1 : ∀ s : ByteArray, s.size ≤ 2000000 → ¬ 9223372036854775807 < s.size + 1 := fun s h => by omega
      have hj1 : ¬ 9223372036854775807 < 1 + (bytes (Lib.join (VT.txts F la) [44])).size := by rw [bytes_size]; have := HJ.out; omega
      have hj2 : ¬ 9223372036854775807 < 1 + (bytes (Lib.join (VT.txts F la) [44])).size + 1 := by rw [bytes_size]; have := HJ.out; omega
      generalize hjj : bytes (Lib.join (VT.txts F la) [44]) = jj at HJN hj1 hj2
      have HJJ := Lib.hid hjj
      clear hjj HN1
      obtain ⟨ao3, cap3, rfl⟩ := hlu
      go_wp2_with (first
        | (go_at_call 56; refine HJN.out.mono ?_; rintro e w5 ⟨rfl, hb5⟩; have H5 := Lib.hid (H6.out.trans (hb5.mono H6.out.size)); have HBJ : Hid (Below (w.alloc (.cells #[.int .i64 6, .int .i64 na, .string sa, .slice ao la.length cap] 47)).heap.size (w.alloc (.cells #[.int .i64 6, .int .i64 na, .string sa, .slice ao la.length cap] 47)) w5) := (by have := HB.out.trans (hb5.mono HS1.out); show Below _ _ _; simpa using this); obtain ⟨d0, d1, d2, d3, _⟩ := cells_below HBJ.out; clear hb5))
      all_goals
        go_ret
        refine ⟨ret_str ?_, H5.out⟩
        rw [HX.out]
        rfl
include hT hF ih in
set_option maxRecDepth 100000 in
set_option maxHeartbeats 3200000 in
theorem text_1 (na : Int) (sa : ByteArray) (la : List VT) (w : World) (P : Nat → Prop) (d : Int) (ao : Option Addr) (cap : Nat) (hk : (VT.node 1 na sa la).sz ≤ k + 1) (hr : (VT.node 1 na sa la).right d = true) (hfl : Fl = true ∨ (VT.node 1 na sa la).noFl = true)
    (a1 : la.length ≤ cap) (a2 : cap ≤ maxLen) (a7 : KidsAt w P la ao 0) (hP : ∀ x, P x → x < w.heap.size) (hw : Below w0.heap.size w0 w) (hlen : ((VT.node 1 na sa la).txt F).length ≤ 1000000) :
    Calls Tryz.prog 37 #[.agg #[.int .i64 1, .int .i64 na, .string sa, .slice ao la.length cap]] w fun e w' => e = .returned (.string (bytes ((VT.node 1 na sa la).txt F))) ∧ Below w.heap.size w w' := by
  obtain ⟨hf, hrs', hd⟩ := VT.right_parts hr
  have hrs := Lib.hid hrs'
  have hfp := fits_parts hf
  have hl8 : la.length ≤ 8 := hfp.2.2.1
  have HFL : Hid (Fl = true ∨ VT.noFls la = true) := hfl.imp id VT.noFl_kids
  have HX := Lib.hid (VT.txt_node F 1 na sa la)
  have HLEN : Hid ((topTxt F 1 na sa (Lib.join (VT.txts F la) [44]) la.length).length ≤ 1000000) := by rw [VT.txt_node] at hlen; exact hlen
  have HJ : Hid ((Lib.join (VT.txts F la) [44]).length ≤ 1000000) := by
    have : la = [] := List.length_eq_zero_iff.1 (fits_none hf (by decide) (by decide))
    subst this
    show _ ≤ _
    simp [VT.txts, Lib.join_nil]
  unfold maxLen at a2
  have HW := Lib.hid hw
  have HT : Hid (∀ W, Below w.heap.size w W → Tab W) := fun W hW => hT.below (hw.trans (hW.mono hw.size))
  have HSA : Hid (sa.size ≤ maxLen) := by show _ ≤ _; unfold maxLen; omega
  have HFB : Hid (∀ W, Below w0.heap.size w0 W → Calls Tryz.prog 58 #[.int .u64 (bitsOf sa.data.toList)] W fun e w' => e = .returned (.string (bytes (F (bitsOf sa.data.toList)))) ∧ Below W.heap.size W w') := fun W hW => hF (by rcases hfl with h | h; exact h; simp [VT.noFl] at h) _ W (bitsOf_lt _) hW

  clear hrs' hr hlen hw hT hfl hf
  go_enter Tryz.func37, Tryz.ntmps37
  go_wp2
  have HL : Hid (TxtLoop F (w.heap.size + 1) (w.alloc (.cells #[.int .i64 1, .int .i64 na, .string sa, .slice ao la.length cap] 47)) la la.length (.slice none 0 0) (.int .i64 0) (w.alloc (.cells #[.int .i64 1, .int .i64 na, .string sa, .slice ao la.length cap] 47))) := ⟨0, rfl, by omega, Row.nil _ _, fun b h => by simp [Value.ownBlock] at h, Below.refl _ _⟩
  go_loopg [3, 10] la.length (fun k s3 s10 wr => TxtLoop F (w.heap.size + 1) (w.alloc (.cells #[.int .i64 1, .int .i64 na, .string sa, .slice ao la.length cap] 47)) la k s3 s10 wr)
  case atStart => exact HL.out
  case round =>
    clear HL
    obtain ⟨i, rfl, hik, hrow, hob, hb⟩ := hrel
    have HB := Lib.hid hb
    have HR := Lib.hid hrow
    have HO := Lib.hid hob
    have hb0 : Below (w.alloc (.cells #[.int .i64 1, .int .i64 na, .string sa, .slice ao la.length cap] 47)).heap.size (w.alloc (.cells #[.int .i64 1, .int .i64 na, .string sa, .slice ao la.length cap] 47)) wr := by simpa using hb
    obtain ⟨c0, c1, c2, c3, hb6⟩ := cells_below hb0
    clear hb0
    have H6 := Lib.hid hb6
    have HS1 : Hid (w.heap.size + 1 ≤ wr.heap.size) := by have := HB.out.size; show _ ≤ _; simpa using this
    clear hb hrow hob hb6
    by_cases hlt : i < la.length
    · obtain ⟨tk, htk⟩ : ∃ u, la[i]? = some u := ⟨_, List.getElem?_eq_getElem hlt⟩
      obtain ⟨bb, oo, _, _, _, _, rfl, hbb, _⟩ := a7.get htk
      obtain ⟨_, aok, capk, p0, p1, p2, p3, hvk⟩ := a7.cells htk
      unfold vval at hvk
      rw [Nat.zero_add] at p0 p1 p2 p3
      have hbb' := hP _ hbb
      have cc : ∀ j, wr.cell? ⟨bb, j, none⟩ = w.cell? ⟨bb, j, none⟩ := fun j => H6.out.cell (p := ⟨bb, j, none⟩) hbb'
      replace p0 := (cc _).trans p0
      replace p1 := (cc _).trans p1
      replace p2 := (cc _).trans p2
      replace p3 := (cc _).trans p3
      have hvk' : Hid (ValIs wr P tk (.agg #[.int .i64 tk.kind, .int .i64 tk.num, .string tk.text, .slice aok tk.kids.length capk])) := hvk.below H6.out hP
      have hkid : Hid (tk.sz ≤ k) := by
        have h5 : tk.sz < (VT.node 1 na sa la).sz := VT.sz_kid (t := VT.node 1 na sa la) htk
        show tk.sz ≤ k; omega
      have hrk := Lib.hid (VT.rights_get hrs.out htk)
      have hflk : Hid (Fl = true ∨ tk.noFl = true) := HFL.out.imp id fun h => VT.noFls_get h htk
      have htl : Hid ((tk.txt F).length ≤ 1000000) := Nat.le_trans (join_le [44] (i := i) (by rw [VT.txts_map, List.getElem?_map, htk]; rfl)) HJ.out
      have hnext := Lib.hid (txts_next F htk)
      have hsl : Hid ((svals (VT.txts F (la.take i))).length = i) := by show _ = _; rw [svals_length, VT.txts_map, List.length_map, List.length_take]; omega
      have g1' : (i : Int) < (la.length : Int) := by omega
      have hi0 : (0 : Int) ≤ (i : Int) := by omega
      clear hvk htk cc
      go_wp2_with (first
        | ((go_at_call 37; refine (ih tk _ _ P (d + 1) hkid.out hrk.out hflk.out (hvk'.out.below ((Below.refl _ _).alloc (Nat.le_refl _) _) (fun b hb => Nat.lt_of_lt_of_le (hP b hb) H6.out.size)) (fun x hx => by have := hP x hx; have := H6.out.size; simp; omega) (HW.out.trans ((H6.out.trans (((Below.refl _ _).alloc (Nat.le_refl _) _).mono H6.out.size)).mono HW.out.size)) htl.out).mono ?_; rintro e w7 ⟨rfl, hb7⟩; have HB7 := Lib.hid hb7; have B7 : Hid (Below wr.heap.size wr w7) := ((Below.refl _ _).alloc (Nat.le_refl _) _).trans (hb7.mono (by simp)); clear hb7))
        | (at_builtin; (refine wpList_app _ rfl _ _ 118 rfl 9 (.string ⟨#[]⟩) 16 Tryz.underlying118 infoS rfl u3 (svals (VT.txts F (la.take i))) rfl (World.ownsRow.alloc (HR.out.chg (F := []) ⟨B7.out.os, B7.out.tape, B7.out.output, B7.out.size, fun i hi _ => B7.out.block i hi⟩ (fun _ _ => by simp)) _) ⟨w7.heap.size, 0, none⟩ 1 1 [.string (bytes (tk.txt F))] rfl (by omega) rfl (cell_one_new _ _ _) (by intro u hu; simp at hu; rw [hu]; rfl) (by have := hsl.out; omega) (by omega) ?_; intro g cap9 w9 hr9 hg9 hl9)))
      have hbe : Hid (Below (w.heap.size + 1) wr w9) := by
        have hc : Chg u3.ownBlock.toList w7 w9 := ((Chg.refl _ w7).alloc _).grown hg9 (fun k hk => .inl (by simp [hk]))
        exact (B7.out.mono HS1.out).trans (hc.below (Nat.le_trans HS1.out B7.out.size) (fun k hk => HO.out k (by simpa using hk)))
      go_roundg (gk - 1)
      case measure => omega
      case rel =>
        refine ⟨i + 1, by go_num, by omega, by rw [hnext.out]; exact hr9, ?_, HB.out.trans hbe.out⟩
        intro b hb
        simp only [Value.ownBlock, Option.some.injEq] at hb
        subst hb
        rcases hl9 with e | e
        · exact HO.out _ e
        · have := HS1.out; have := B7.out.size; simp at e; omega
    · obtain rfl : i = la.length := by omega
      have HR2 : Hid (Row wr 9 u3 (svals (VT.txts F la))) := by have := HR.out; rwa [List.take_length] at this
      have HJN := Lib.hid (join_row HR2.out HJ.out (by omega))
      have hlu : ∃ ao3 cap3, u3 = .slice ao3 la.length cap3 := by
        obtain ⟨ao3, cap3, h, _⟩ := HR2.out.form
        exact ⟨ao3, cap3, by rw [h, svals_length, VT.txts_map, List.length_map]⟩
      have HN1 : ∀ s : ByteArray, s.size ≤ 2000000 → ¬ 9223372036854775807 < s.size + 1 := fun s h => by omega
      have hj1 : ¬ 9223372036854775807 < 1 + (bytes (Lib.join (VT.txts F la) [44])).size := by rw [bytes_size]; have := HJ.out; omega
      have hj2 : ¬ 9223372036854775807 < 1 + (bytes (Lib.join (VT.txts F la) [44])).size + 1 := by rw [bytes_size]; have := HJ.out; omega
      generalize hjj : bytes (Lib.join (VT.txts F la) [44]) = jj at HJN hj1 hj2
      have HJJ := Lib.hid hjj
      clear hjj HN1
      obtain ⟨ao3, cap3, rfl⟩ := hlu
      go_wp2_with (first
        | (go_at_call 56; refine HJN.out.mono ?_; rintro e w5 ⟨rfl, hb5⟩; have H5 := Lib.hid (H6.out.trans (hb5.mono H6.out.size)); have HBJ : Hid (Below (w.alloc (.cells #[.int .i64 1, .int .i64 na, .string sa, .slice ao la.length cap] 47)).heap.size (w.alloc (.cells #[.int .i64 1, .int .i64 na, .string sa, .slice ao la.length cap] 47)) w5) := (by have := HB.out.trans (hb5.mono HS1.out); show Below _ _ _; simpa using this); obtain ⟨d0, d1, d2, d3, _⟩ := cells_below HBJ.out; clear hb5)
        | (go_at_call 57; refine (float_any sa _ HSA.out).mono ?_; rintro e w' ⟨rfl, rfl⟩)
        | (go_at_call 58; refine (HFB.out _ (HW.out.trans (H5.out.mono HW.out.size))).mono ?_; rintro e w7 ⟨rfl, hb7⟩; have H7 := Lib.hid (H5.out.trans (hb7.mono H5.out.size)); clear hb7))
      all_goals
        go_ret
        refine ⟨ret_str ?_, H7.out⟩
        rw [HX.out]
        rfl
include hT ih in
set_option maxRecDepth 100000 in
set_option maxHeartbeats 3200000 in
theorem text_3 (na : Int) (sa : ByteArray) (la : List VT) (w : World) (P : Nat → Prop) (d : Int) (ao : Option Addr) (cap : Nat) (hk : (VT.node 3 na sa la).sz ≤ k + 1) (hr : (VT.node 3 na sa la).right d = true) (hfl : Fl = true ∨ (VT.node 3 na sa la).noFl = true)
    (a1 : la.length ≤ cap) (a2 : cap ≤ maxLen) (a7 : KidsAt w P la ao 0) (hP : ∀ x, P x → x < w.heap.size) (hw : Below w0.heap.size w0 w) (hlen : ((VT.node 3 na sa la).txt F).length ≤ 1000000) :
    Calls Tryz.prog 37 #[.agg #[.int .i64 3, .int .i64 na, .string sa, .slice ao la.length cap]] w fun e w' => e = .returned (.string (bytes ((VT.node 3 na sa la).txt F))) ∧ Below w.heap.size w w' := by
  obtain ⟨hf, hrs', hd⟩ := VT.right_parts hr
  have hrs := Lib.hid hrs'
  have hfp := fits_parts hf
  have hl8 : la.length ≤ 8 := hfp.2.2.1
  have HFL : Hid (Fl = true ∨ VT.noFls la = true) := hfl.imp id VT.noFl_kids
  have HX := Lib.hid (VT.txt_node F 3 na sa la)
  have HLEN : Hid ((topTxt F 3 na sa (Lib.join (VT.txts F la) [44]) la.length).length ≤ 1000000) := by rw [VT.txt_node] at hlen; exact hlen
  have HJ : Hid ((Lib.join (VT.txts F la) [44]).length ≤ 1000000) := by
    have := HLEN.out
    simp [topTxt] at this
    show _ ≤ _
    split at this
    · rename_i h0
      rw [h0]; simp [VT.txts, Lib.join_nil]
    · simp at this; omega
  unfold maxLen at a2
  have HW := Lib.hid hw
  have HT : Hid (∀ W, Below w.heap.size w W → Tab W) := fun W hW => hT.below (hw.trans (hW.mono hw.size))
  have hni : Hid ((Lib.itoa (wr na)).length ≤ 21) := Lib.itoa_length_le _ (by have := wr_ge na; omega) (by have := wr_le na; omega)
  have hn1 : ¬ 9223372036854775807 < 1 + (bytes (Lib.itoa (wr na))).size := by rw [bytes_size]; have := hni.out; omega
  have hn3 : ∀ j : ByteArray, j.size ≤ 1000000 → ¬ 9223372036854775807 < 1 + (bytes (Lib.itoa (wr na))).size + (1 + j.size + 1) := by intro j hj; rw [bytes_size]; have := hni.out; omega

  clear hrs' hr hlen hw hT hfl hf
  go_enter Tryz.func37, Tryz.ntmps37
  go_wp2
  have HL : Hid (TxtLoop F (w.heap.size + 1) (w.alloc (.cells #[.int .i64 3, .int .i64 na, .string sa, .slice ao la.length cap] 47)) la la.length (.slice none 0 0) (.int .i64 0) (w.alloc (.cells #[.int .i64 3, .int .i64 na, .string sa, .slice ao la.length cap] 47))) := ⟨0, rfl, by omega, Row.nil _ _, fun b h => by simp [Value.ownBlock] at h, Below.refl _ _⟩
  go_loopg [3, 10] la.length (fun k s3 s10 wr => TxtLoop F (w.heap.size + 1) (w.alloc (.cells #[.int .i64 3, .int .i64 na, .string sa, .slice ao la.length cap] 47)) la k s3 s10 wr)
  case atStart => exact HL.out
  case round =>
    clear HL
    obtain ⟨i, rfl, hik, hrow, hob, hb⟩ := hrel
    have HB := Lib.hid hb
    have HR := Lib.hid hrow
    have HO := Lib.hid hob
    have hb0 : Below (w.alloc (.cells #[.int .i64 3, .int .i64 na, .string sa, .slice ao la.length cap] 47)).heap.size (w.alloc (.cells #[.int .i64 3, .int .i64 na, .string sa, .slice ao la.length cap] 47)) wr := by simpa using hb
    obtain ⟨c0, c1, c2, c3, hb6⟩ := cells_below hb0
    clear hb0
    have H6 := Lib.hid hb6
    have HS1 : Hid (w.heap.size + 1 ≤ wr.heap.size) := by have := HB.out.size; show _ ≤ _; simpa using this
    clear hb hrow hob hb6
    by_cases hlt : i < la.length
    · obtain ⟨tk, htk⟩ : ∃ u, la[i]? = some u := ⟨_, List.getElem?_eq_getElem hlt⟩
      obtain ⟨bb, oo, _, _, _, _, rfl, hbb, _⟩ := a7.get htk
      obtain ⟨_, aok, capk, p0, p1, p2, p3, hvk⟩ := a7.cells htk
      unfold vval at hvk
      rw [Nat.zero_add] at p0 p1 p2 p3
      have hbb' := hP _ hbb
      have cc : ∀ j, wr.cell? ⟨bb, j, none⟩ = w.cell? ⟨bb, j, none⟩ := fun j => H6.out.cell (p := ⟨bb, j, none⟩) hbb'
      replace p0 := (cc _).trans p0
      replace p1 := (cc _).trans p1
      replace p2 := (cc _).trans p2
      replace p3 := (cc _).trans p3
      have hvk' : Hid (ValIs wr P tk (.agg #[.int .i64 tk.kind, .int .i64 tk.num, .string tk.text, .slice aok tk.kids.length capk])) := hvk.below H6.out hP
      have hkid : Hid (tk.sz ≤ k) := by
        have h5 : tk.sz < (VT.node 3 na sa la).sz := VT.sz_kid (t := VT.node 3 na sa la) htk
        show tk.sz ≤ k; omega
      have hrk := Lib.hid (VT.rights_get hrs.out htk)
      have hflk : Hid (Fl = true ∨ tk.noFl = true) := HFL.out.imp id fun h => VT.noFls_get h htk
      have htl : Hid ((tk.txt F).length ≤ 1000000) := Nat.le_trans (join_le [44] (i := i) (by rw [VT.txts_map, List.getElem?_map, htk]; rfl)) HJ.out
      have hnext := Lib.hid (txts_next F htk)
      have hsl : Hid ((svals (VT.txts F (la.take i))).length = i) := by show _ = _; rw [svals_length, VT.txts_map, List.length_map, List.length_take]; omega
      have g1' : (i : Int) < (la.length : Int) := by omega
      have hi0 : (0 : Int) ≤ (i : Int) := by omega
      clear hvk htk cc
      go_wp2_with (first
        | ((go_at_call 37; refine (ih tk _ _ P (d + 1) hkid.out hrk.out hflk.out (hvk'.out.below ((Below.refl _ _).alloc (Nat.le_refl _) _) (fun b hb => Nat.lt_of_lt_of_le (hP b hb) H6.out.size)) (fun x hx => by have := hP x hx; have := H6.out.size; simp; omega) (HW.out.trans ((H6.out.trans (((Below.refl _ _).alloc (Nat.le_refl _) _).mono H6.out.size)).mono HW.out.size)) htl.out).mono ?_; rintro e w7 ⟨rfl, hb7⟩; have HB7 := Lib.hid hb7; have B7 : Hid (Below wr.heap.size wr w7) := ((Below.refl _ _).alloc (Nat.le_refl _) _).trans (hb7.mono (by simp)); clear hb7))
        | (at_builtin; (refine wpList_app _ rfl _ _ 118 rfl 9 (.string ⟨#[]⟩) 16 Tryz.underlying118 infoS rfl u3 (svals (VT.txts F (la.take i))) rfl (World.ownsRow.alloc (HR.out.chg (F := []) ⟨B7.out.os, B7.out.tape, B7.out.output, B7.out.size, fun i hi _ => B7.out.block i hi⟩ (fun _ _ => by simp)) _) ⟨w7.heap.size, 0, none⟩ 1 1 [.string (bytes (tk.txt F))] rfl (by omega) rfl (cell_one_new _ _ _) (by intro u hu; simp at hu; rw [hu]; rfl) (by have := hsl.out; omega) (by omega) ?_; intro g cap9 w9 hr9 hg9 hl9)))
      have hbe : Hid (Below (w.heap.size + 1) wr w9) := by
        have hc : Chg u3.ownBlock.toList w7 w9 := ((Chg.refl _ w7).alloc _).grown hg9 (fun k hk => .inl (by simp [hk]))
        exact (B7.out.mono HS1.out).trans (hc.below (Nat.le_trans HS1.out B7.out.size) (fun k hk => HO.out k (by simpa using hk)))
      go_roundg (gk - 1)
      case measure => omega
      case rel =>
        refine ⟨i + 1, by go_num, by omega, by rw [hnext.out]; exact hr9, ?_, HB.out.trans hbe.out⟩
        intro b hb
        simp only [Value.ownBlock, Option.some.injEq] at hb
        subst hb
        rcases hl9 with e | e
        · exact HO.out _ e
        · have := HS1.out; have := B7.out.size; simp at e; omega
    · obtain rfl : i = la.length := by omega
      have HR2 : Hid (Row wr 9 u3 (svals (VT.txts F la))) := by have := HR.out; rwa [List.take_length] at this
      have HJN := Lib.hid (join_row HR2.out HJ.out (by omega))
      have hlu : ∃ ao3 cap3, u3 = .slice ao3 la.length cap3 := by
        obtain ⟨ao3, cap3, h, _⟩ := HR2.out.form
        exact ⟨ao3, cap3, by rw [h, svals_length, VT.txts_map, List.length_map]⟩
      have HN1 : ∀ s : ByteArray, s.size ≤ 2000000 → ¬ 9223372036854775807 < s.size + 1 := fun s h => by omega
      have hj1 : ¬ 9223372036854775807 < 1 + (bytes (Lib.join (VT.txts F la) [44])).size := by rw [bytes_size]; have := HJ.out; omega
      have hj2 : ¬ 9223372036854775807 < 1 + (bytes (Lib.join (VT.txts F la) [44])).size + 1 := by rw [bytes_size]; have := HJ.out; omega
      generalize hjj : bytes (Lib.join (VT.txts F la) [44]) = jj at HJN hj1 hj2
      have HJJ := Lib.hid hjj
      clear hjj HN1
      obtain ⟨ao3, cap3, rfl⟩ := hlu
      have hj3 := hn3 jj (by rw [← HJJ.out, bytes_size]; exact HJ.out)
      go_wp2_with (first
        | (go_at_call 56; refine HJN.out.mono ?_; rintro e w5 ⟨rfl, hb5⟩; have H5 := Lib.hid (H6.out.trans (hb5.mono H6.out.size)); have HBJ : Hid (Below (w.alloc (.cells #[.int .i64 3, .int .i64 na, .string sa, .slice ao la.length cap] 47)).heap.size (w.alloc (.cells #[.int .i64 3, .int .i64 na, .string sa, .slice ao la.length cap] 47)) w5) := (by have := HB.out.trans (hb5.mono HS1.out); show Below _ _ _; simpa using this); obtain ⟨d0, d1, d2, d3, _⟩ := cells_below HBJ.out; clear hb5)
        | (go_at_call 36; refine (numText_any na _ (HT.out _ H5.out)).mono ?_; rintro e w7 ⟨rfl, hb7⟩; have H7 := Lib.hid (H5.out.trans (hb7.mono H5.out.size)); clear hb7))
      all_goals
        go_ret
        refine ⟨ret_str ?_, H7.out⟩
        rw [HX.out]
        try rw [← HJJ.out]
        apply Go.WideShapes.bytes_inj
        simp [bytes, topTxt]
        first
          | (have h0 : ((la.length : Int) == 0) = true := (by assumption); simpa using h0)
          | (have h0 : ((la.length : Int) == 0) = false := (by assumption); simpa using h0)
          | (have h0 : ¬ ((la.length : Int) == 0) = true := (by assumption); simpa using h0)
end
theorem text_walk (F : Nat → List UInt8) (Fl : Bool) (w0 : World) (hT : Tab w0) (hF : Fl = true → ∀ (x : Nat) (w : World), x < 18446744073709551616 → Below w0.heap.size w0 w → Calls Tryz.prog 58 #[.int .u64 x] w fun e w' => e = .returned (.string (bytes (F x))) ∧ Below w.heap.size w w') :
    ∀ (k : Nat) (t : VT) (vt : Value) (w : World) (P : Nat → Prop) (d : Int), t.sz ≤ k → t.right d = true → (Fl = true ∨ t.noFl = true) → ValIs w P t vt → (∀ x, P x → x < w.heap.size) → Below w0.heap.size w0 w → (t.txt F).length ≤ 1000000 →
    Calls Tryz.prog 37 #[vt] w fun e w' => e = .returned (.string (bytes (t.txt F))) ∧ Below w.heap.size w w' := by
  intro k
  induction k with
  | zero => intro t _ _ _ _ h; cases t; simp [VT.sz] at h
  | succ k ih =>
    intro t vt w P d hk hr hfl hv hP hw hlen
    obtain ⟨k0, na, sa, la⟩ := t
    unfold ValIs at hv
    obtain ⟨ao, cap, rfl, a1, a2, a3, a4, a5, a6, a7⟩ := hv
    obtain ⟨h0, h6, _⟩ := fits_parts (VT.right_parts hr).1
    have h : k0 = 0 ∨ k0 = 1 ∨ k0 = 2 ∨ k0 = 3 ∨ k0 = 4 ∨ k0 = 5 ∨ k0 = 6 := by omega
    rcases h with rfl | rfl | rfl | rfl | rfl | rfl | rfl
    · exact text_0 F Fl w0 hT k ih na sa la w P d ao cap hk hr hfl a1 a2 a7 hP hw hlen
    · exact text_1 F Fl w0 hT hF k ih na sa la w P d ao cap hk hr hfl a1 a2 a7 hP hw hlen
    · exact text_2 F Fl w0 hT k ih na sa la w P d ao cap hk hr hfl a1 a2 a7 hP hw hlen
    · exact text_3 F Fl w0 hT k ih na sa la w P d ao cap hk hr hfl a1 a2 a7 hP hw hlen
    · exact text_4 F Fl w0 hT k ih na sa la w P d ao cap hk hr hfl a1 a2 a7 hP hw hlen
    · exact text_5 F Fl w0 hT k ih na sa la w P d ao cap hk hr hfl a1 a2 a7 hP hw hlen
    · exact text_6 F Fl w0 hT k ih na sa la w P d ao cap hk hr hfl a1 a2 a7 hP hw hlen
end Go.Proofs.YtenikoecnfbfoaaGreatDoor
/- Tame twice is once; boxes of four. -/
namespace Go.Proofs.YtenikoecnfbfoaaGreatDoor
open Go.RowKit Go.Maps Wr
set_option linter.unusedVariables false
set_option linter.unusedSimpArgs false

theorem cut_cut (s : ByteArray) : cutText (cutText s) = cutText s := by
  have h : (cutText s).size ≤ 5000 := by unfold cutText; rw [ByteArray.size_extract]; omega
  generalize cutText s = x at *
  unfold cutText
  rw [show min x.size 5000 = x.size by omega]
  exact ByteArray.extract_zero_size ..
namespace VT
mutual
theorem tame_tame : ∀ (t : VT) (d left : Int), (tame t d left).1.tame d left = tame t d left
  | node k n s l, d, left => by
    rw [tame]
    simp only
    rw [tame, cut_cut, tames_tames l 12 d (left - 1)]
theorem tames_tames : ∀ (l : List VT) (m : Nat) (d left : Int), tames (tames l m d left).1 m d left = tames l m d left
  | [], m, d, left => by
    have e : tames [] m d left = ([], left) := by rw [tames]
    rw [e, e]
  | t :: ts, m, d, left => by
    rw [tames]
    split
    · rename_i h
      simp only
      rw [tames, if_pos h, tame_tame t (d - 1) left, tames_tames ts (m - 1) d]
    · have e : tames [] m d left = ([], left) := by rw [tames]
      exact e
end
mutual
theorem same_refl : ∀ t : VT, same t t = true
  | node k n s l => by rw [same, sames_refl l]; simp
theorem sames_refl : ∀ l : List VT, sames l l = true
  | [] => by rw [sames]
  | t :: l => by rw [sames, same_refl t, sames_refl l]; rfl
end
end VT
def topTame (t : VT) : VT := (t.tame 210 300).1
theorem topTame_twice (t : VT) : topTame (topTame t) = topTame t := by unfold topTame; rw [VT.tame_tame]

theorem four_stores {F : List Nat} {a b : World} (h : Chg F a b) {p : Nat} (hp : p ∈ F ∨ a.heap.size ≤ p) (x0 x1 x2 x3 : Value) : Chg F a ((((b.setCell ⟨p, 0, none⟩ x0).setCell ⟨p, 1, none⟩ x1).setCell ⟨p, 2, none⟩ x2).setCell ⟨p, 3, none⟩ x3) :=
  (((h.setCell (p := ⟨p, 0, none⟩) hp x0).setCell (p := ⟨p, 1, none⟩) hp x1).setCell (p := ⟨p, 2, none⟩) hp x2).setCell (p := ⟨p, 3, none⟩) hp x3
theorem four_stored {w : World} {H : Nat} {a b c d y0 y1 y2 y3 : Value} {t : TypeId} (h : w.heap[H]? = some (.cells #[a, b, c, d] t (0, 0))) :
    ((((w.setCell ⟨H, 0, none⟩ y0).setCell ⟨H, 1, none⟩ y1).setCell ⟨H, 2, none⟩ y2).setCell ⟨H, 3, none⟩ y3).heap[H]? = some (.cells #[y0, y1, y2, y3] t (0, 0)) := by
  have h2 := hdr4_set (o := 0) (u := y0) h
  have h3 := hdr4_set (o := 1) (u := y1) (a := y0) (b := b) (c := c) (d := d) (h2.trans rfl)
  have h4 := hdr4_set (o := 2) (u := y2) (a := y0) (b := y1) (c := c) (d := d) (h3.trans rfl)
  have h5 := hdr4_set (o := 3) (u := y3) (a := y0) (b := y1) (c := y2) (d := d) (h4.trans rfl)
  exact h5.trans rfl
theorem later_box {w5 : World} {q : Nat} {a b c d : Value} {t : TypeId} (z : w5.heap[q]? = some (.cells #[a, b, c, d] t (0, 0))) (o : Obj) :
    ((w5.alloc o).cell? ⟨q, 0, none⟩ = some a ∧ (w5.alloc o).cell? ⟨q, 1, none⟩ = some b ∧ (w5.alloc o).cell? ⟨q, 2, none⟩ = some c ∧ (w5.alloc o).cell? ⟨q, 3, none⟩ = some d) ∧ ∀ j, (w5.alloc o).frozen? ⟨q, j, none⟩ = false := by
  have h : (w5.alloc o).heap[q]? = some (.cells #[a, b, c, d] t (0, 0)) := (heap_alloc_old _ _ (lt_of_block z)).trans z
  constructor
  · simp [World.cell?, h]
  · intro j; simp [World.frozen?, h]
theorem two_boxes {w w5 : World} {A B : Array Value} {t t2 : TypeId} (h : Below ((w.alloc (.cells A t)).alloc (.cells B t2)).heap.size ((w.alloc (.cells A t)).alloc (.cells B t2)) w5) :
    w5.heap[w.heap.size]? = some (.cells A t (0, 0)) ∧ w5.heap[w.heap.size + 1]? = some (.cells B t2 (0, 0)) ∧ Below w.heap.size w w5 ∧ w.heap.size + 2 ≤ w5.heap.size := by
  have hs : (w.alloc (.cells A t)).heap.size = w.heap.size + 1 := by simp
  have hn : ((w.alloc (.cells A t)).alloc (.cells B t2)).heap[w.heap.size + 1]? = some (.cells B t2 (0, 0)) := by rw [← hs]; exact heap_alloc_new _ _
  have hz := h.size
  refine ⟨(h.block w.heap.size (by simp; omega)).trans ((heap_alloc_old _ _ (by simp)).trans (heap_alloc_new w _)), (h.block (w.heap.size + 1) (by simp)).trans hn, (((Below.refl _ _).alloc (Nat.le_refl _) _).alloc (by simp) _).trans (h.mono (by simp; omega)), by simpa using hz⟩
theorem leaf_is (w : World) (P : Nat → Prop) (k n : Int) (s : ByteArray) (hk : (Lit.int .i64 k).wf = true) (hn : (Lit.int .i64 n).wf = true) (hs : s.size ≤ maxLen) : ValIs w P (.node k n s []) (.agg #[.int .i64 k, .int .i64 n, .string s, .slice none 0 0]) := by
  unfold ValIs
  exact ⟨none, 0, rfl, Nat.le_refl _, by unfold maxLen; omega, hs, hk, hn, fun _ => rfl, by unfold KidsAt; trivial⟩
theorem sz_max (s : ByteArray) (h : s.size ≤ 10) : s.size ≤ maxLen := by unfold maxLen; omega
end Go.Proofs.YtenikoecnfbfoaaGreatDoor
/- Small facts: a row as a text, boxes of a value. -/
namespace Go.Proofs.YtenikoecnfbfoaaGreatDoor
open Go.RowKit Go.Maps Wr
set_option linter.unusedVariables false
set_option linter.unusedSimpArgs false

/-- 'string(b)' of any row of bytes. -/
theorem run_row_any {w : World} {N : Nat} {v : Value} {b : List UInt8} (h : ByteRow w N v b) : (convert 102 9 v).run Tryz.prog w = .ok (.string (bytes b)) w := by
  cases b with
  | cons c l => exact run_row_str h (by simp)
  | nil =>
    rcases h.1.shape with ⟨rfl, h0⟩ | ⟨g, cap, rfl, _, _, _⟩
    · exact run_convert_bytes_nil w 102 5 Tryz.underlying102 Tryz.underlying5 0 0 9 Tryz.underlying9
    · exact run_convert_bytes_back (P := Tryz.prog) w 102 9 5 ⟨g, 0, none⟩ cap [] Tryz.underlying102 Tryz.underlying5 Tryz.underlying9 (fun j hj => absurd hj (by simp))

/-- A box of a value that is there. -/
def Boxed (w : World) (q : Nat) (v0 v1 v2 v3 : Value) : Prop := (w.cell? ⟨q, 0, none⟩ = some v0 ∧ w.cell? ⟨q, 1, none⟩ = some v1 ∧ w.cell? ⟨q, 2, none⟩ = some v2 ∧ w.cell? ⟨q, 3, none⟩ = some v3) ∧ ∀ j, w.frozen? ⟨q, j, none⟩ = false
theorem boxed_of {w : World} {q : Nat} {a b c d : Value} {t : TypeId} (h : w.heap[q]? = some (.cells #[a, b, c, d] t (0, 0))) : Boxed w q a b c d := by
  constructor
  · simp [World.cell?, h]
  · intro j; simp [World.frozen?, h]
theorem boxed_below {w w' : World} {M q : Nat} {a b c d : Value} (h : Boxed w q a b c d) (hb : Below M w w') (hq : q < M) : Boxed w' q a b c d :=
  ⟨⟨(hb.cell (p := ⟨q, 0, none⟩) hq).trans h.1.1, (hb.cell (p := ⟨q, 1, none⟩) hq).trans h.1.2.1, (hb.cell (p := ⟨q, 2, none⟩) hq).trans h.1.2.2.1, (hb.cell (p := ⟨q, 3, none⟩) hq).trans h.1.2.2.2⟩, fun j => (hb.frozen (p := ⟨q, j, none⟩) hq).trans (h.2 j)⟩

end Go.Proofs.YtenikoecnfbfoaaGreatDoor
/- Boxes of a value; bytes that lie somewhere: small facts, out of the readers texts. -/
namespace Go.Proofs.YtenikoecnfbfoaaGreatDoor
open Go.RowKit Go.Maps Wr Go.ChangeShapes Go.WideShapes
set_option linter.unusedVariables false

theorem KRow.chg {w w' : World} {base : Nat} {v : Value} {l : List VT} {F : List Nat} (h : KRow w base v l) (hc : Chg F w w') (hF : ∀ k ∈ F, k < base) : KRow w' base v l := by
  obtain ⟨ps, h1, h2, h3, h4⟩ := h
  refine ⟨ps, h1, h2.chg hc (fun k hk hm => by have := h3 k hk; have := hF k hm; omega), h3, fun i t p ht hp => ?_⟩
  exact ((h4 i t p ht hp).chg hc (fun b hb => ⟨hb.2.1, fun hm => by have := hF b hm; omega⟩)).mono fun b hb => ⟨hb.1, Nat.lt_of_lt_of_le hb.2.1 hc.size, hb.2.2⟩
theorem hdr4_cells {w : World} {q : Nat} {a b c d : Value} {t : TypeId} (h : w.heap[q]? = some (.cells #[a, b, c, d] t (0, 0))) : w.cell? ⟨q, 0, none⟩ = some a ∧ w.cell? ⟨q, 1, none⟩ = some b ∧ w.cell? ⟨q, 2, none⟩ = some c ∧ w.cell? ⟨q, 3, none⟩ = some d ∧ ∀ j, w.frozen? ⟨q, j, none⟩ = false :=
  ⟨by simp [World.cell?, h], by simp [World.cell?, h], by simp [World.cell?, h], by simp [World.cell?, h], fun j => by simp [World.frozen?, h]⟩
/-- The result's cells, written. -/
theorem four_ret {w : World} {H : Nat} {a b c d y0 y1 y2 y3 : Value} {t : TypeId} (h : w.heap[H]? = some (.cells #[a, b, c, d] t (0, 0))) :
    ((((w.setCell ⟨H, 0, none⟩ y0).setCell ⟨H, 1, none⟩ y1).setCell ⟨H, 2, none⟩ y2).setCell ⟨H, 3, none⟩ y3).heap[H]? = some (.cells #[y0, y1, y2, y3] t (0, 0)) ∧
    Chg [H] w ((((w.setCell ⟨H, 0, none⟩ y0).setCell ⟨H, 1, none⟩ y1).setCell ⟨H, 2, none⟩ y2).setCell ⟨H, 3, none⟩ y3) := by
  have h2 := hdr4_set (o := 0) (u := y0) h
  have h3 := hdr4_set (o := 1) (u := y1) (a := y0) (b := b) (c := c) (d := d) (h2.trans rfl)
  have h4 := hdr4_set (o := 2) (u := y2) (a := y0) (b := y1) (c := c) (d := d) (h3.trans rfl)
  have h5 := hdr4_set (o := 3) (u := y3) (a := y0) (b := y1) (c := y2) (d := d) (h4.trans rfl)
  refine ⟨h5.trans rfl, ?_⟩
  exact ((((Chg.refl [H] w).setCell (p := ⟨H, 0, none⟩) (.inl (by simp)) _).setCell (p := ⟨H, 1, none⟩) (.inl (by simp)) _).setCell (p := ⟨H, 2, none⟩) (.inl (by simp)) _).setCell (p := ⟨H, 3, none⟩) (.inl (by simp)) _
theorem app_block {w5 w6 : World} {o : Obj} {v : Value} {q : Nat} (hg : (w5.alloc o).grownBy w6 v.ownBlock) (hq : q < w5.heap.size) (hv : v.ownBlock ≠ some q) : w6.heap[q]? = w5.heap[q]? :=
  (((Chg.refl v.ownBlock.toList w5).alloc o).grown hg (fun k hk => .inl (by simp [hk]))).block q hq (by simpa using hv)
theorem cell3_later {w : World} {q : Nat} {a b c d : Value} {t : TypeId} (h : w.heap[q]? = some (.cells #[a, b, c, d] t (0, 0))) : ∀ o, (w.alloc o).cell? ⟨q, 3, none⟩ = some d := fun o => by
  have := (heap_alloc_old w o (lt_of_block h)).trans h
  simp [World.cell?, this]
theorem wf_in {k : Int} (h1 : -9223372036854775808 ≤ k) (h2 : k ≤ 9223372036854775807) : (Lit.int .i64 k).wf = true := by
  have e1 : IntKind.i64.min = -9223372036854775808 := by decide
  have e2 : IntKind.i64.max = 9223372036854775807 := by decide
  simp only [Lit.wf, Bool.and_eq_true, decide_eq_true_eq]
  omega
abbrev Z4 : Obj := .cells #[.int .i64 0, .int .i64 0, .string ⟨#[]⟩, .slice none 0 0] 47 (0, 0)
theorem chg_set1 {w w' : World} {p o : Nat} (h : Chg [p] w w') (u : Value) : Chg [p] w (w'.setCell ⟨p, o, none⟩ u) := Chg.setCell (p := ⟨p, o, none⟩) h (.inl (by simp)) _
/-- A slice that reads as these bytes. -/
def BytesIn (w : World) (v : Value) (b : List UInt8) : Prop :=
  ∃ ao cap, v = .slice ao b.length cap ∧ b.length ≤ cap ∧ cap ≤ maxLen ∧ (ao = none → cap = 0) ∧ ∀ j (h : j < b.length), ∃ g o, ao = some ⟨g, o, none⟩ ∧ g < w.heap.size ∧ w.cell? ⟨g, o + j, none⟩ = some (.int .u8 ((b[j]).toNat : Int))
theorem BytesIn.below {w w' : World} {v : Value} {b : List UInt8} (h : BytesIn w v b) (hb : Below w.heap.size w w') : BytesIn w' v b := by
  obtain ⟨ao, cap, h1, h2, h3, h4, h5⟩ := h
  refine ⟨ao, cap, h1, h2, h3, h4, fun j hj => ?_⟩
  obtain ⟨g, o, e0, e1, e2⟩ := h5 j hj
  exact ⟨g, o, e0, Nat.lt_of_lt_of_le e1 hb.size, (hb.cell (p := ⟨g, o + j, none⟩) e1).trans e2⟩
theorem row_cells {w : World} {N : Nat} {v : Value} {b : List UInt8} (h : ByteRow w N v b) : ∃ ao cap, v = .slice ao b.length cap ∧ b.length ≤ cap ∧ cap ≤ maxLen ∧ (ao = none → cap = 0) ∧ ∀ j (h : j < b.length), ∃ g, ao = some ⟨g, 0, none⟩ ∧ N ≤ g ∧ g < w.heap.size ∧ w.cell? ⟨g, j, none⟩ = some (.int .u8 ((b[j]).toNat : Int)) := by
  rcases h.1.shape with ⟨rfl, h0⟩ | ⟨g, cap, rfl, h1, h2, hg⟩
  · have hb : b = [] := by
      have := congrArg List.length h0
      rw [bvals_length] at this
      exact List.length_eq_zero_iff.1 this
    subst hb
    exact ⟨none, 0, rfl, Nat.le_refl _, by unfold maxLen; omega, fun _ => rfl, fun j hj => absurd hj (by simp)⟩
  · have hr := h.1
    rw [bvals_length] at h1 hr ⊢
    refine ⟨some ⟨g, 0, none⟩, cap, rfl, h1, h2, (fun e => by cases e), fun j hj => ⟨g, rfl, h.2 g rfl, hg, ?_⟩⟩
    rw [hr.cellAt j (by rw [bvals_length]; exact hj)]
    simp [bvals, hj]
theorem BytesIn.row {w : World} {N : Nat} {v : Value} {b : List UInt8} (h : ByteRow w N v b) : BytesIn w v b := by
  obtain ⟨ao, cap, h1, h2, h3, h4, h5⟩ := row_cells h
  refine ⟨ao, cap, h1, h2, h3, h4, fun j hj => ?_⟩
  obtain ⟨g, e0, _, e1, e2⟩ := h5 j hj
  exact ⟨g, 0, e0, e1, by rw [Nat.zero_add]; exact e2⟩
/-- 'string(b)'. -/
theorem run_bytes_str {w : World} {v : Value} {b : List UInt8} (h : BytesIn w v b) : (convert 102 9 v).run Tryz.prog w = .ok (.string (bytes b)) w := by
  obtain ⟨ao, cap, rfl, h1, h2, h3, h4⟩ := h
  cases ao with
  | none =>
    have hc := h3 rfl
    have hb : b = [] := List.length_eq_zero_iff.1 (by omega)
    subst hb
    exact run_convert_bytes_nil w 102 5 Tryz.underlying102 Tryz.underlying5 0 cap 9 Tryz.underlying9
  | some ad =>
    exact run_convert_bytes_back (P := Tryz.prog) w 102 9 5 ad cap b Tryz.underlying102 Tryz.underlying5 Tryz.underlying9 (fun j hj => by
      obtain ⟨g, o, e1, _, e4⟩ := h4 j hj
      cases e1
      rw [show (Addr.add ⟨g, o, none⟩ j) = ⟨g, o + j, none⟩ by unfold Addr.add; split <;> simp_all]
      exact e4)
theorem err_zero {t : VT} (h : encErr t = 0) : t.right 1 = true ∧ ¬ 16384 < t.enc.length := by
  unfold encErr at h
  split at h
  · rename_i h1
    split at h
    · rename_i h2; exact ⟨h1, by omega⟩
    · omega
  · omega
end Go.Proofs.YtenikoecnfbfoaaGreatDoor
/- The program's Same: slices.EqualFunc with Same itself. -/
namespace Go.Proofs.YtenikoecnfbfoaaGreatDoor
open Go.RowKit Go.Maps Wr
set_option linter.unusedVariables false

/-- What the function is asked for. -/
def SameFn (g : FuncId) (la lb : List VT) (w : World) : Prop :=
  ∀ (W : World) (i : Nat) (ta tb : VT) (va vb : Value), Below w.heap.size w W → la[i]? = some ta → lb[i]? = some tb → ValIs w (fun b => b < w.heap.size) ta va → ValIs w (fun b => b < w.heap.size) tb vb →
    Calls Tryz.prog g #[va, vb] W fun e w' => e = .returned (.bool (ta.same tb)) ∧ Below w.heap.size w w'
def EqLoop (w : World) (la lb : List VT) (k : Nat) (s17 : Value) (wr : World) : Prop :=
  ∃ i : Nat, s17 = .int .i64 i ∧ i + k = lb.length ∧ VT.sames la lb = VT.sames (la.drop i) (lb.drop i) ∧ Below w.heap.size w wr

theorem eq_later {w : World} {q : Nat} {j0 j1 j2 j3 : Nat} {a b c d : Value} (h0 : w.cell? ⟨q, j0, none⟩ = some a) (h1 : w.cell? ⟨q, j1, none⟩ = some b) (h2 : w.cell? ⟨q, j2, none⟩ = some c) (h3 : w.cell? ⟨q, j3, none⟩ = some d) (o : Obj) :
    (w.alloc o).cell? ⟨q, j0, none⟩ = some a ∧ (w.alloc o).cell? ⟨q, j1, none⟩ = some b ∧ (w.alloc o).cell? ⟨q, j2, none⟩ = some c ∧ (w.alloc o).cell? ⟨q, j3, none⟩ = some d :=
  ⟨new_ne' w h0 o, new_ne' w h1 o, new_ne' w h2 o, new_ne' w h3 o⟩
set_option maxRecDepth 100000 in
set_option maxHeartbeats 1600000 in
theorem eqf_walk (g : FuncId) (eg : ∀ args w, (callFunc g args).run Tryz.prog w = .ok (.enter g args) w) (la lb : List VT) (ao bo : Option Addr) (ca cb : Nat) (w : World) (h1 : la.length ≤ ca) (h2 : ca ≤ maxLen) (h3 : lb.length ≤ cb) (h4 : cb ≤ maxLen)
    (ka : KidsAt w (fun b => b < w.heap.size) la ao 0) (kb : KidsAt w (fun b => b < w.heap.size) lb bo 0) (hp : SameFn g la lb w) :
    Calls Tryz.prog 41 #[.slice ao la.length ca, .slice bo lb.length cb, .func (.func g) #[] #[]] w fun e w' => e = .returned (.bool (VT.sames la lb)) ∧ Below w.heap.size w w' := by
  unfold maxLen at h2 h4
  by_cases hlen : la.length = lb.length
  · have HLEN := Lib.hid hlen
    have hlq : ((la.length : Int) != (lb.length : Int)) = false := by simp [hlen]
    have KA := Lib.hid ka
    have KB := Lib.hid kb
    have HP := Lib.hid hp
    clear ka kb hp hlen
    go_enter Tryz.func41, Tryz.ntmps41
    go_wp2
    have HL : Hid (EqLoop w la lb lb.length (.int .i64 0) w) := ⟨0, rfl, by omega, rfl, Below.refl _ _⟩
    go_loopg [7, 17] lb.length (fun k _ s17 wr => EqLoop w la lb k s17 wr)
    case atStart => exact HL.out
    case round =>
      clear HL
      obtain ⟨i, rfl, hik, hr, hb⟩ := hrel
      have HB := Lib.hid hb
      have HR := Lib.hid hr
      clear hb hr
      have hi0 : (0 : Int) ≤ (i : Int) := by omega
      by_cases hlt : i < lb.length
      · obtain ⟨ta, hta⟩ : ∃ u, la[i]? = some u := ⟨_, List.getElem?_eq_getElem (by have := HLEN.out; omega)⟩
        obtain ⟨tb, htb⟩ : ∃ u, lb[i]? = some u := ⟨_, List.getElem?_eq_getElem hlt⟩
        obtain ⟨ba, oa, _, _, _, _, rfl, hba, _⟩ := KA.out.get hta
        obtain ⟨bb, ob, _, _, _, _, rfl, hbb, _⟩ := KB.out.get htb
        obtain ⟨_, aoa, capa, p0, p1, p2, p3, hva⟩ := KA.out.cells hta
        obtain ⟨_, aob, capb, q0, q1, q2, q3, hvb⟩ := KB.out.cells htb
        rw [Nat.zero_add] at p0 p1 p2 p3 q0 q1 q2 q3
        have ca : ∀ j, wr.cell? ⟨ba, j, none⟩ = w.cell? ⟨ba, j, none⟩ := fun j => HB.out.cell (p := ⟨ba, j, none⟩) hba
        have cb : ∀ j, wr.cell? ⟨bb, j, none⟩ = w.cell? ⟨bb, j, none⟩ := fun j => HB.out.cell (p := ⟨bb, j, none⟩) hbb
        replace p0 := (ca _).trans p0
        replace p1 := (ca _).trans p1
        replace p2 := (ca _).trans p2
        replace p3 := (ca _).trans p3
        replace q0 := (cb _).trans q0
        replace q1 := (cb _).trans q1
        replace q2 := (cb _).trans q2
        replace q3 := (cb _).trans q3
        have qq := fun o => eq_later q0 q1 q2 q3 o
        have HC0 := fun W hW => HP.out W i ta tb _ _ hW hta htb hva hvb
        unfold vval at HC0
        have HC := Lib.hid HC0
        clear HC0
        have hdrop : Hid (VT.sames (la.drop i) (lb.drop i) = (ta.same tb && VT.sames (la.drop (i + 1)) (lb.drop (i + 1)))) := by
          have e1 : la.drop i = ta :: la.drop (i + 1) := VT.drop_kid hta
          have e2 : lb.drop i = tb :: lb.drop (i + 1) := VT.drop_kid htb
          show _ = _
          rw [e1, e2, VT.sames]
        have g1 : (i : Int) < (la.length : Int) := by have := HLEN.out; omega
        have g2 : (i : Int) < (lb.length : Int) := by omega
        clear hva hvb hta htb ca cb
        generalize ta.same tb = q at HC hdrop
        generalize ta.kind = x0 at p0 HC
        generalize ta.num = x1 at p1 HC
        generalize ta.text = x2 at p2 HC
        generalize ta.kids.length = x3 at p3 HC
        generalize tb.kind = y0 at q0 HC qq
        generalize tb.num = y1 at q1 HC qq
        generalize tb.text = y2 at q2 HC qq
        generalize tb.kids.length = y3 at q3 HC qq
        have hB2 : ∀ o1 o2, Below w.heap.size w ((wr.alloc o1).alloc o2) := fun o1 o2 => (HB.out.trans ((Below.refl _ _).alloc HB.out.size _)).trans ((Below.refl _ _).alloc (by have := HB.out.size; simp; omega) _)
        have HB2 := Lib.hid hB2
        clear hB2
        cases q
        · go_wp2_with (fail)
          refine (HC.out _ (HB2.out _ _)).mono ?_
          rintro e w5 ⟨rfl, hb5⟩
          have H5 := Lib.hid hb5
          clear hb5
          go_wp2
          go_ret
          refine ⟨ret_bool ?_, H5.out⟩
          rw [HR.out, hdrop.out, Bool.false_and]
        · go_wp2_with (fail)
          refine (HC.out _ (HB2.out _ _)).mono ?_
          rintro e w5 ⟨rfl, hb5⟩
          have H5 := Lib.hid hb5
          clear hb5
          go_wp2
          go_roundg (gk - 1)
          case measure => omega
          case rel => exact ⟨i + 1, by go_num, by omega, by rw [HR.out, hdrop.out, Bool.true_and], H5.out⟩
      · obtain rfl : i = lb.length := by omega
        have g1 : ¬ ((lb.length : Int)) < (la.length : Int) := by have := HLEN.out; omega
        go_wp2
        go_ret
        refine ⟨ret_bool ?_, HB.out⟩
        rw [HR.out, List.drop_of_length_le (by have := HLEN.out; omega), List.drop_length, VT.sames]
  · have hlq : ((la.length : Int) != (lb.length : Int)) = true := by simp; omega
    have hs : VT.sames la lb = false := by
      cases h : VT.sames la lb
      · rfl
      · exact absurd (VT.sames_len h) hlen
    rw [hs]
    go_enter Tryz.func41, Tryz.ntmps41
    go_wp2
    go_ret
    exact ⟨rfl, Below.refl _ _⟩

set_option maxRecDepth 100000 in
set_option maxHeartbeats 1600000 in
theorem same_walk (k : Nat) : ∀ (a b : VT) (va vb : Value) (w : World) (P : Nat → Prop), a.sz ≤ k → ValIs w P a va → ValIs w P b vb → (∀ b, P b → b < w.heap.size) →
    Calls Tryz.prog 42 #[va, vb] w fun e w' => e = .returned (.bool (a.same b)) ∧ Below w.heap.size w w' := by
  induction k with
  | zero => intro a b va vb w P hk; cases a; simp [VT.sz] at hk
  | succ k ih =>
    intro a b va vb w P hk ha hb hN
    cases a with
    | node ka na sa la =>
    cases b with
    | node kb nb sb lb =>
    unfold ValIs at ha hb
    obtain ⟨aoa, capa, rfl, a1, a2, a3, a4, a5, a6, a7⟩ := ha
    obtain ⟨aob, capb, rfl, b1, b2, b3, b4, b5, b6, b7⟩ := hb
    by_cases h1 : ka = kb
    · by_cases h2 : na = nb
      · by_cases h3 : sa = sb
        · subst h1 h2 h3
          have HE : Hid (∀ W, Below w.heap.size w W → Calls Tryz.prog 41 #[.slice aoa la.length capa, .slice aob lb.length capb, .func (.func 42) #[] #[]] W fun e w' => e = .returned (.bool (VT.sames la lb)) ∧ Below W.heap.size W w') := by
            intro W hW
            refine eqf_walk _ (fun _ _ => by rfl) la lb aoa aob capa capb W a1 a2 b1 b2 (a7.keep (fun b hb => Nat.lt_of_lt_of_le (hN b hb) hW.size) (fun p hp => hW.cell (hN p.block hp))) (b7.keep (fun b hb => Nat.lt_of_lt_of_le (hN b hb) hW.size) (fun p hp => hW.cell (hN p.block hp))) ?_
            intro W2 i ta tb va vb hW2 hta htb hva hvb
            have hsz : ta.sz ≤ k := by
              have h5 : ta.sz < (VT.node ka na sa la).sz := VT.sz_kid (t := VT.node ka na sa la) hta
              omega
            refine (ih ta tb va vb W2 (fun b => b < W.heap.size) hsz (hva.below hW2 (fun b hb => hb)) (hvb.below hW2 (fun b hb => hb)) (fun b hb => Nat.lt_of_lt_of_le hb hW2.size)).mono ?_
            rintro e w' ⟨rfl, hb⟩
            exact ⟨rfl, hW2.trans (hb.mono hW2.size)⟩
          have hB2 : Hid (∀ o1 o2, Below w.heap.size w ((w.alloc o1).alloc o2)) := fun o1 o2 => ((Below.refl _ _).alloc (Nat.le_refl _) _).trans ((Below.refl _ _).alloc (by simp) _)
          rw [VT.same_node]
          clear a7 b7 ih
          go_enter Tryz.func42, Tryz.ntmps42
          go_wp2_with ((go_at_call 41; refine (HE.out _ (hB2.out _ _)).mono ?_; rintro e w7 ⟨rfl, hb7⟩; have HB7 := Lib.hid ((hB2.out _ _).trans (hb7.mono (by simp; omega))); clear hb7))
          go_ret
          exact ⟨rfl, HB7.out⟩
        · have hs : (VT.node ka na sa la).same (VT.node kb nb sb lb) = false := by rw [VT.same]; simp [h3]
          have h3' : ¬ sa.toList = sb.toList := fun e => h3 (text_inj e)
          subst h1 h2
          rw [hs]
          go_enter Tryz.func42, Tryz.ntmps42
          go_wp2
          go_ret
          exact ⟨rfl, ((Below.refl _ _).alloc (Nat.le_refl _) _).alloc (by simp) _⟩
      · have hs : (VT.node ka na sa la).same (VT.node kb nb sb lb) = false := by rw [VT.same]; simp [h2]
        have h2' : (na == nb) = false := by simpa using h2
        subst h1
        rw [hs]
        go_enter Tryz.func42, Tryz.ntmps42
        go_wp2
        go_ret
        exact ⟨rfl, ((Below.refl _ _).alloc (Nat.le_refl _) _).alloc (by simp) _⟩
    · have hs : (VT.node ka na sa la).same (VT.node kb nb sb lb) = false := by rw [VT.same]; simp [h1]
      have h1' : (ka == kb) = false := by simpa using h1
      rw [hs]
      go_enter Tryz.func42, Tryz.ntmps42
      go_wp2
      go_ret
      exact ⟨rfl, ((Below.refl _ _).alloc (Nat.le_refl _) _).alloc (by simp) _⟩
end Go.Proofs.YtenikoecnfbfoaaGreatDoor
/- Sixteen digits of a float's bits: FormatUint at base 16. -/
namespace Go.Proofs.YtenikoecnfbfoaaGreatDoor
open Go.RowKit Go.Maps Wr
set_option linter.unusedVariables false

def hexDigits (u : Nat) : List UInt8 := if _h : u < 16 then [hexB u] else hexDigits (u / 16) ++ [hexB (u % 16)]
termination_by u
decreasing_by omega
theorem hexDigits_small {u : Nat} (h : u < 16) : hexDigits u = [hexB u] := by rw [hexDigits]; simp [h]
theorem hexDigits_big {u : Nat} (h : ¬ u < 16) : hexDigits u = hexDigits (u / 16) ++ [hexB (u % 16)] := by rw [hexDigits]; simp [h]
/-- Just k digits. -/
def hexPad : Nat → Nat → List UInt8
  | 0, _ => []
  | k + 1, u => hexPad k (u / 16) ++ [hexB (u % 16)]
theorem hexPad_zero : ∀ k, hexPad k 0 = List.replicate k 48
  | 0 => rfl
  | k + 1 => by rw [hexPad, Nat.zero_div, hexPad_zero k, List.replicate_succ']; rfl
theorem hexDigits_le : ∀ (k u : Nat), u < 16 ^ (k + 1) → (hexDigits u).length ≤ k + 1
  | 0, u, h => by rw [hexDigits_small (by simpa using h)]; simp
  | k + 1, u, h => by
    by_cases hs : u < 16
    · rw [hexDigits_small hs]; simp
    · rw [hexDigits_big hs, List.length_append]
      have := hexDigits_le k (u / 16) (by rw [Nat.pow_succ] at h; omega)
      simp; omega
theorem hexDigits_pos (u : Nat) : 0 < (hexDigits u).length := by
  by_cases hs : u < 16
  · rw [hexDigits_small hs]; simp
  · rw [hexDigits_big hs]; simp
theorem hex_pad : ∀ (k u : Nat), u < 16 ^ (k + 1) → List.replicate (k + 1 - (hexDigits u).length) 48 ++ hexDigits u = hexPad (k + 1) u
  | 0, u, h => by
    have : u < 16 := by simpa using h
    rw [hexDigits_small this, hexPad, hexPad, Nat.mod_eq_of_lt this]
    simp
  | k + 1, u, h => by
    by_cases hs : u < 16
    · rw [hexDigits_small hs, hexPad, Nat.div_eq_of_lt hs, hexPad_zero, Nat.mod_eq_of_lt hs]
      simp
    · have h2 : u / 16 < 16 ^ (k + 1) := by rw [Nat.pow_succ] at h; omega
      have := hex_pad k (u / 16) h2
      rw [hexPad, ← this, hexDigits_big hs, ← List.append_assoc]
      have := hexDigits_le k (u / 16) h2
      simp

theorem hexDigits_bound {u : Nat} (h : u < 18446744073709551616) : (hexDigits u).length ≤ 16 := hexDigits_le 15 u (by simpa using h)
/-- The one cell of the table that a look at 16's last noughts reads. -/
def Tz (w : World) : Prop := w.cell? ⟨4, 15, none⟩ = some (.int .u8 4)
theorem Tz.below {w w' : World} (h : Tz w) (hb : Below w.heap.size w w') : Tz w' := (hb.cell (p := ⟨4, 15, none⟩) (lt_of_cell h)).trans h
set_option maxRecDepth 100000 in
theorem tz64_any (w : World) (h : Tz w) : Calls Tryz.prog 133 #[.int .u64 16] w fun e w' => e = .returned (.int .i64 4) ∧ w = w' := by
  unfold Tz at h
  have hx : IntKind.u64.wrap (bits BinOp.and IntKind.u64 16 (IntKind.u64.wrap (-16)) * 285870213051353865) / 288230376151711744 = 15 := by decide +kernel
  go_enter Tryz.func133, Tryz.ntmps133
  go_wp2
  go_ret
  exact ⟨rfl, rfl⟩
theorem tz_any (w : World) (h : Tz w) : Calls Tryz.prog 131 #[.int .u64 16] w fun e w' => e = .returned (.int .i64 4) ∧ w = w' := by
  go_enter Tryz.func131, Tryz.ntmps131
  go_wp2_with (go_at_call 133; refine (tz64_any _ h).mono ?_; rintro e w' ⟨rfl, rfl⟩)
  go_ret
  exact ⟨rfl, rfl⟩
theorem pow_any (w : World) : Calls Tryz.prog 130 #[.int .i64 16] w fun e w' => e = .returned (.bool true) ∧ w = w' := by
  have hx : (bits BinOp.and IntKind.i64 16 15 == 0) = true := by decide +kernel
  go_enter Tryz.func130, Tryz.ntmps130
  go_wp2
  go_ret
  exact ⟨rfl, rfl⟩
theorem and15_u64 (u : Nat) (h : u < 18446744073709551616) : bits .and .u64 (u : Int) 15 = (u : Int) % 16 := by
  show IntKind.u64.wrap (((BitVec.ofInt 64 (u : Int) &&& BitVec.ofInt 64 15).toNat : Nat) : Int) = _
  rw [BitVec.ofInt_natCast, BitVec.toNat_and, BitVec.toNat_ofNat, show (BitVec.ofInt 64 15).toNat = 15 by decide, Nat.mod_eq_of_lt (by omega)]
  rw [show (15 : Nat) = 2 ^ 4 - 1 from rfl, Nat.and_two_pow_sub_one_eq_mod]
  show ((u % 2 ^ 4 : Nat) : Int) % 18446744073709551616 = _
  omega
theorem hex36 (j k : Nat) (h : j = k) (hk : k < 16) (hb : j < (ByteArray.mk #[48, 49, 50, 51, 52, 53, 54, 55, 56, 57, 97, 98, 99, 100, 101, 102, 103, 104, 105, 106, 107, 108, 109, 110, 111, 112, 113, 114, 115, 116, 117, 118, 119, 120, 121, 122]).size) :
    (ByteArray.mk #[48, 49, 50, 51, 52, 53, 54, 55, 56, 57, 97, 98, 99, 100, 101, 102, 103, 104, 105, 106, 107, 108, 109, 110, 111, 112, 113, 114, 115, 116, 117, 118, 119, 120, 121, 122])[j]'hb = hexB k := by
  subst h
  have key : ∀ k : Fin 16, (ByteArray.mk #[48, 49, 50, 51, 52, 53, 54, 55, 56, 57, 97, 98, 99, 100, 101, 102, 103, 104, 105, 106, 107, 108, 109, 110, 111, 112, 113, 114, 115, 116, 117, 118, 119, 120, 121, 122])[k.val]'(Nat.lt_of_lt_of_le k.isLt (by decide)) = hexB k.val := by decide +kernel
  exact key ⟨j, hk⟩
theorem drop_set {L : List Value} {m : Nat} {c : Value} (h : m < L.length) : (L.set m c).drop m = c :: L.drop (m + 1) := by
  rw [List.drop_eq_getElem_cons (by simpa using h), List.getElem_set_self, List.drop_set_of_lt (by omega)]
def HexLoop (w0 : World) (u0 : Nat) (k : Nat) (s1 s13 : Value) (w : World) : Prop :=
  ∃ (u n : Nat) (D : List UInt8) (L : List Value), s1 = .int .u64 (u : Nat) ∧ s13 = .int .i64 (n : Nat) ∧ n + D.length = 65 ∧ u = k ∧ u < 18446744073709551616 ∧ hexDigits u0 = hexDigits u ++ D ∧
    Row w 194 (.slice (some ⟨w0.heap.size, 0, none⟩) 65 65) L ∧ L.length = 65 ∧ L.drop n = bvals D ∧ Below w0.heap.size w0 w
set_option maxRecDepth 100000 in
theorem zero_row (w : World) : Row (w.alloc (.cells Tryz.zeroCells194 194)) 194 (.slice (some ⟨w.heap.size, 0, none⟩) 65 65) (List.replicate 65 (.int .u8 0)) := by
  have e : (Tryz.zeroCells194).toList = List.replicate 65 (.int .u8 0) := by rfl
  refine ⟨rfl, .inr ⟨w.heap.size, 65, Tryz.zeroCells194, rfl, Nat.zero_le _, heap_alloc_new w _, Nat.le_refl _, by unfold maxLen; omega, ?_, ?_⟩⟩
  · rw [← Array.length_toList, e]; rfl
  · rw [e]; rfl
theorem run_tail65 (b m : Nat) (hm : m < 65) (W : World) : (Instr.sliceAt 194 (.pointer (some ⟨b, 0, none⟩)) (some (.int .i64 (m : Int))) none none).run Tryz.prog W = .ok (.slice (some ⟨b, m, none⟩) (65 - m) (65 - m)) W := by
  have hal : Tryz.prog.arrayLen 194 = 65 := by kernel_rfl
  have hel : Tryz.prog.elem 194 = 5 := by kernel_rfl
  have h := run_sliceAt_array_l (P := Tryz.prog) (w := W) (t := 194) (a := ⟨b, 0, none⟩) (by rw [hal, hel]; exact Tryz.underlying194) .i64 (m : Int) (by omega) (by rw [hal]; omega)
  rw [h, hal, hel, Tryz.sizeOf5]
  simp only [Result.andThen_ok, slicedAt, Int.toNat_natCast, Nat.mul_one]
  rw [if_neg (by omega), Go.WideShapes.add_plain, Nat.zero_add]
set_option maxRecDepth 100000 in
set_option maxHeartbeats 1600000 in
theorem formatBits_any (u0 : Nat) (hu0 : u0 < 18446744073709551616) (w : World) (h : Tz w) : Calls Tryz.prog 118 #[.slice none 0 0, .int .u64 u0, .int .i64 16, .bool false, .bool false] w
    fun e w' => e = .returned (.tuple #[.slice none 0 0, .string (bytes (hexDigits u0))]) ∧ Below w.heap.size w w' := by
  have HU := Lib.hid hu0
  have H := Lib.hid h
  clear hu0 h
  go_enter Tryz.func118, Tryz.ntmps118
  go_wp2_with (first
    | (go_at_call 130; refine (pow_any _).mono ?_; rintro e w' ⟨rfl, rfl⟩)
    | (go_at_call 131; refine (tz_any _ (H.out.below ((Below.refl _ _).alloc (Nat.le_refl _) _))).mono ?_; rintro e w' ⟨rfl, rfl⟩))
  have HL : Hid (HexLoop w u0 u0 (.int .u64 u0) (.int .i64 65) (w.alloc (.cells Tryz.zeroCells194 194))) := ⟨u0, 65, [], _, rfl, rfl, rfl, rfl, HU.out, by simp, zero_row w, by simp, by simp [bvals], (Below.refl _ _).alloc (Nat.le_refl _) _⟩
  go_loopg [1, 13] u0 (fun k s1 s13 wr => HexLoop w u0 k s1 s13 wr)
  case atStart => exact HL.out
  case round =>
    clear HL
    obtain ⟨u, n, D, L, rfl, rfl, hn, rfl, hu, hx, hrow, hll, hdr, hb⟩ := hrel
    have hd15 : D.length ≤ 15 := by
      have h1 := hexDigits_bound HU.out
      rw [hx, List.length_append] at h1
      have := hexDigits_pos u
      omega
    obtain ⟨m, rfl⟩ : ∃ m, n = m + 1 := ⟨n - 1, by omega⟩
    have c0 := hrow.cellAt m (by omega)
    rw [List.getElem?_eq_getElem (by omega)] at c0
    have f0 := hrow.frozenAt m
    have HROW := Lib.hid hrow
    have HB := Lib.hid hb
    have HX := Lib.hid hx
    have HDR := Lib.hid hdr
    have HLL := Lib.hid hll
    have hand := and15_u64 u hu
    have HU2 := Lib.hid hu
    have hal : Tryz.prog.arrayLen 194 = 65 := by kernel_rfl
    have hml : (m : Int) ≤ ((Tryz.prog.arrayLen 194 : Nat) : Int) := by rw [hal]; omega
    have hm0 : (0 : Int) ≤ (m : Int) := by omega
    have hm1 : (m : Int) < 65 := by omega
    have hu3 : (0 : Int) ≤ (u : Int) := by omega
    have ha0 : (0 : Int) ≤ (u : Int) % 16 := by omega
    have ha1 : (u : Int) % 16 < 36 := by omega
    clear hrow hb hx hdr hu
    by_cases hlt : 16 ≤ u
    · have hlt' : (16 : Int) ≤ (u : Int) := by omega
      go_wp2
      go_roundg (u / 16)
      case measure => omega
      case rel =>
        refine ⟨u / 16, m, hexB (u % 16) :: D, L.set m (.int .u8 ((hexB (u % 16)).toNat : Int)), congrArg (Value.int .u64) (by omega), rfl, by simp; omega, rfl, by have := HU2.out; omega, ?_, ?_, by simpa using HLL.out, ?_, HB.out.setCell (Nat.le_refl _) _⟩
        · rw [HX.out, hexDigits_big (by omega), List.append_assoc]; rfl
        · rw [hex36 _ (u % 16) rfl (by omega)]
          exact HROW.out.stored m _
        · rw [drop_set (by have := HLL.out; omega), HDR.out]; rfl
    · have hlt' : ¬ (16 : Int) ≤ (u : Int) := by omega
      have hsl := run_tail65 w.heap.size m (by omega)
      have hrow2 := HROW.out.stored m (.int .u8 ((hexB u).toNat : Int))
      have hcv : ∀ W, Row W 194 (.slice (some ⟨w.heap.size, 0, none⟩) 65 65) (L.set m (.int .u8 ((hexB u).toNat : Int))) → (convert 102 9 (.slice (some ⟨w.heap.size, m, none⟩) (65 - m) (65 - m))).run Tryz.prog W = .ok (.string (bytes (hexDigits u0))) W := by
        intro W hW
        have e : hexDigits u0 = hexB u :: D := by rw [HX.out, hexDigits_small (by omega)]; rfl
        have hl : (hexB u :: D).length = 65 - m := by simp; omega
        rw [e, ← hl]
        refine run_convert_bytes_back (P := Tryz.prog) W 102 9 5 ⟨w.heap.size, m, none⟩ _ (hexB u :: D) Tryz.underlying102 Tryz.underlying5 Tryz.underlying9 (fun j hj => ?_)
        rw [Go.WideShapes.add_plain, hW.cellAt (m + j) (by simp; omega)]
        have hd := drop_set (L := L) (m := m) (c := .int .u8 ((hexB u).toNat : Int)) (by have := HLL.out; omega)
        rw [HDR.out] at hd
        have : (L.set m (.int .u8 ((hexB u).toNat : Int)))[m + j]? = (bvals (hexB u :: D))[j]? := by
          rw [← List.getElem?_drop, hd]; rfl
        rw [this]
        unfold bvals
        rw [List.getElem?_map, List.getElem?_eq_getElem hj]
        rfl
      have hcv2 := hcv _ hrow2
      rw [← hex36 u u rfl (by omega) (show u < 36 by omega)] at hcv2
      clear hcv hrow2
      go_wp2
      refine bodyPost_ret (v := .tuple #[.slice none 0 0, .string (bytes (hexDigits u0))]) (by simp [results, Tryz.results118, go_sem]) rfl ?_
      exact ⟨rfl, HB.out.setCell (Nat.le_refl _) _⟩

/-- A float's sixteen digits. -/
def flHex (x : Nat) : List UInt8 := List.replicate (16 - (hexDigits x).length) 48 ++ hexDigits x
theorem flHex_pad (x : Nat) (h : x < 18446744073709551616) : flHex x = hexPad 16 x := hex_pad 15 x (by simpa using h)
set_option maxRecDepth 100000 in
theorem fmtUint_any (u0 : Nat) (hu0 : u0 < 18446744073709551616) (w : World) (h : Tz w) : Calls Tryz.prog 79 #[.int .u64 u0, .int .i64 16] w fun e w' => e = .returned (.string (bytes (hexDigits u0))) ∧ Below w.heap.size w w' := by
  have HF := Lib.hid (fun W hW => formatBits_any u0 hu0 W hW)
  have H2 : Hid (∀ W, Tz W → Calls Tryz.prog 101 #[.int .u64 u0, .int .i64 16] W fun e w' => e = .returned (.string (bytes (hexDigits u0))) ∧ Below W.heap.size W w') := by
    intro W hW
    clear hu0 h
    go_enter Tryz.func101, Tryz.ntmps101
    go_wp2_with (go_at_call 118; refine (HF.out _ hW).mono ?_; rintro e w5 ⟨rfl, hb5⟩; have H5 := Lib.hid hb5; clear hb5)
    go_ret
    exact ⟨rfl, H5.out⟩
  clear hu0
  go_enter Tryz.func79, Tryz.ntmps79
  go_wp2_with (go_at_call 101; refine (H2.out _ h).mono ?_; rintro e w5 ⟨rfl, hb5⟩; have H5 := Lib.hid hb5; clear hb5)
  go_ret
  exact ⟨rfl, H5.out⟩
set_option maxRecDepth 100000 in
theorem flBits_any (u0 : Nat) (hu0 : u0 < 18446744073709551616) (w : World) (h : Tz w) : Calls Tryz.prog 58 #[.int .u64 u0] w fun e w' => e = .returned (.string (bytes (flHex u0))) ∧ Below w.heap.size w w' := by
  have hl := hexDigits_bound hu0
  have HF := Lib.hid (fmtUint_any u0 hu0 w h)
  obtain ⟨c, hc⟩ : ∃ c, c = 16 - (hexDigits u0).length := ⟨_, rfl⟩
  have hw : IntKind.i64.wrap (16 - ((bytes (hexDigits u0)).size : Int)) = (c : Int) := by rw [bytes_size, IntKind.wrap_i64]; omega
  have hw2 : wrap64 (16 - ((bytes (hexDigits u0)).size : Int)) = (c : Int) := by rw [bytes_size]; unfold wrap64; omega
  have HR : Hid (∀ W, Calls Tryz.prog 80 #[.string ⟨#[48]⟩, .int .i64 c] W fun e w' => e = .returned (.string (bytes (List.replicate c 48))) ∧ Below W.heap.size W w') := fun W => by
    have h := Tryz.strings_Repeat ⟨#[48]⟩ c W (by omega) (by show 1 * c ≤ _; omega)
    have er : ∀ c, Lib.repeatL [48] c = List.replicate c 48 := fun c => by
      induction c with
      | zero => rfl
      | succ c ih => rw [Lib.repeatL, ih, List.replicate_succ]; rfl
    exact h.mono fun e w' h => ⟨by rw [h.1]; show Ending.returned (.string ⟨(Lib.repeatL [48] c).toArray⟩) = _; rw [er]; rfl, h.2⟩
  have hno : ¬ 9223372036854775807 < (bytes (List.replicate c 48)).size + (bytes (hexDigits u0)).size := by rw [bytes_size, bytes_size, List.length_replicate]; omega
  clear hu0
  have HC := Lib.hid hc
  clear hc hl
  go_enter Tryz.func58, Tryz.ntmps58
  go_wp2_with (first
    | (go_at_call 79; refine HF.out.mono ?_; rintro e w5 ⟨rfl, hb5⟩; have H5 := Lib.hid hb5; clear hb5)
    | (go_at_call 80; refine (HR.out _).mono ?_; rintro e w7 ⟨rfl, hb7⟩; have H7 := Lib.hid (H5.out.trans (hb7.mono H5.out.size)); clear hb7))
  go_ret
  refine ⟨ret_str ?_, H7.out⟩
  unfold flHex
  rw [← HC.out, bytes_append]
end Go.Proofs.YtenikoecnfbfoaaGreatDoor
/- The reference's digits: of numbers, of bits. -/
namespace Go.Proofs.YtenikoecnfbfoaaGreatDoor
open Go.RowKit Go.Maps Wr
set_option linter.unusedVariables false

def dd (u : Nat) (l : List UInt8) : List UInt8 := if u = 0 ∧ l ≠ [] then l else Lib.decDigits u ++ l
theorem dd_next {u : Nat} {l : List UInt8} (h : 0 < u ∨ l = []) : dd u l = dd (u / 10) (UInt8.ofNat (48 + u % 10) :: l) := by
  unfold dd
  rw [if_neg (by rintro ⟨h1, h2⟩; rcases h with h | h; omega; exact h2 h)]
  by_cases h10 : u < 10
  · rw [if_pos ⟨by omega, by simp⟩, Lib.decDigits_one h10, Nat.mod_eq_of_lt h10]; rfl
  · rw [if_neg (by rintro ⟨h1, _⟩; omega), Lib.decDigits, dif_neg h10, List.append_assoc]; rfl
theorem dd_end {u : Nat} {l : List UInt8} (h1 : u = 0) (h2 : l ≠ []) : dd u l = l := if_pos ⟨h1, h2⟩
theorem dd_len (u : Nat) (l : List UInt8) : l.length ≤ (dd u l).length := by unfold dd; split <;> simp
theorem dig_val (u : Nat) : ((UInt8.ofNat (48 + u % 10)).toNat : Int) = 48 + (u : Int) % 10 := by
  rw [UInt8.toNat_ofNat']
  omega
theorem dlen (u : Nat) (h : u ≤ 4611686018427387904) : (Lib.decDigits u).length ≤ 21 := by
  have := Lib.itoa_length_le (u : Int) (by omega) (by omega)
  rwa [Lib.itoa_nonneg] at this
theorem conv_one (w : World) (c : UInt8) (x : Int) (hx : x = (c.toNat : Int)) : (convert 102 9 (.slice (some ⟨w.heap.size, 0, none⟩) 1 1)).run Tryz.prog (w.alloc (.cells #[.int .u8 x] 5)) = .ok (.string (bytes [c])) (w.alloc (.cells #[.int .u8 x] 5)) := by
  subst hx
  exact run_row_str (new_row w [c] #[.int .u8 (c.toNat : Int)] rfl (by simp)) (by simp)
def DLoop (w : World) (u0 : Nat) (gk : Nat) (s4 s5 : Value) (wr : World) : Prop :=
  ∃ (u : Nat) (l : List UInt8), s4 = .int .u64 u ∧ s5 = .string (bytes l) ∧ gk = u + (if l = [] then 1 else 0) ∧ u ≤ u0 ∧ Lib.decDigits u0 = dd u l ∧ Below w.heap.size w wr

set_option maxRecDepth 100000 in
set_option maxHeartbeats 1600000 in
theorem refText_any (n : Int) (w : World) : Calls Tryz.prog 38 #[.int .i64 n] w fun e w' => e = .returned (.string (bytes (Lib.itoa (wr n)))) ∧ Below w.heap.size w w' := by
  have h1 := wr_ge n
  have h2 := wr_le n
  have HW := Lib.hid (refWrap_any n w)
  obtain ⟨v, hv⟩ : ∃ v, wr n = v := ⟨_, rfl⟩
  rw [hv] at h1 h2 HW ⊢
  by_cases hneg : v < 0
  · obtain ⟨u0, rfl, hu0⟩ : ∃ u0 : Nat, v = -(u0 : Int) ∧ 1 ≤ u0 := ⟨v.natAbs, by omega, by omega⟩
    obtain ⟨z, hz1⟩ : ∃ z, IntKind.u64.wrap (-(u0 : Int)) = z := ⟨_, rfl⟩
    have hz2 : IntKind.u64.wrap (-z) = (u0 : Int) := by
      rw [← hz1]
      show (-((-(u0 : Int)) % 18446744073709551616)) % 18446744073709551616 = _
      omega
    have HU0 : Hid (u0 ≤ 4611686018427387904) := by show u0 ≤ 4611686018427387904; omega
    have hp : 0 < u0 := hu0
    clear h1 h2 hv
    go_enter Tryz.func38, Tryz.ntmps38
    go_wp2_with (go_at_call 60; refine HW.out.mono ?_; rintro e w' ⟨rfl, rfl⟩)
    try rw [decide_eq_true (by assumption)]
    have HL : Hid (DLoop w u0 (u0 + 1) (.int .u64 u0) (.string ⟨#[]⟩) w) := ⟨u0, [], rfl, rfl, by simp, Nat.le_refl _, by simp [dd], Below.refl _ _⟩
    go_loopg [4, 5] (u0 + 1) (fun gk s4 s5 wr => DLoop w u0 gk s4 s5 wr)
    case atStart => exact HL.out
    case round =>
      clear HL
      obtain ⟨u, l, rfl, rfl, hgk, hu, hd, hb⟩ := hrel
      have HB := Lib.hid hb
      have HGK := Lib.hid hgk
      have HD := Lib.hid hd
      have HU := Lib.hid hu
      have HLE : Hid (l.length ≤ 21) := (by have := dd_len u l; rw [← hd] at this; exact Nat.le_trans this (dlen u0 HU0.out))
      clear hb hgk hd hu
      have g0 : (0 : Int) ≤ (u : Int) := by omega
      have HSM : Hid (u ≤ 4611686018427387904) := Nat.le_trans HU.out HU0.out
      by_cases hgo : 0 < u ∨ l = []
      · have HN := Lib.hid (dd_next hgo)
        obtain ⟨d, hd⟩ : ∃ d, UInt8.ofNat (48 + u % 10) = d := ⟨_, rfl⟩
        have hdv := dig_val u
        rw [hd] at HN hdv
        have hcv := conv_one wr d (48 + (u : Int) % 10) hdv.symm
        have hb0 : (0 : Int) ≤ (u : Int) % 10 := by omega
        have hb1 : (u : Int) % 10 < 10 := by omega
        have HBS := Lib.hid (bytes_size l)
        have HAP := Lib.hid (bytes_append [d] l)
        have hs1 : ¬ 9223372036854775807 < 1 + (bytes l).size := by rw [bytes_size]; have := HLE.out; omega
        have HWQ : Hid (IntKind.u64.wrap ((u : Int) / 10) = ((u / 10 : Nat) : Int)) := by
          show (u : Int) / 10 % 18446744073709551616 = _
          have := HSM.out
          omega
        by_cases hu0 : 0 < u
        · have hu1 : (0 : Int) < (u : Int) := by omega
          clear hgo hd hdv
          go_wp2
          go_roundg (u / 10)
          case measure => have := HGK.out; omega
          case rel => exact ⟨u / 10, d :: l, by rw [HWQ.out], by rw [HAP.out]; rfl, by simp, by have := HU.out; omega, HD.out.trans HN.out, HB.out.trans ((Below.refl _ _).alloc HB.out.size _)⟩
        · have hl : l = [] := by rcases hgo with h | h; exact absurd h hu0; exact h
          subst hl
          obtain rfl : u = 0 := by omega
          clear hgo hd hdv
          replace hcv : (convert 102 9 (.slice (some ⟨wr.heap.size, 0, none⟩) 1 1)).run Tryz.prog (wr.alloc (.cells #[.int .u8 48] 5)) = .ok (.string (bytes [d])) (wr.alloc (.cells #[.int .u8 48] 5)) := hcv
          have he : bytes [] = ⟨#[]⟩ := rfl
          rw [he] at HAP hs1 ⊢
          clear he
          go_wp2
          go_roundg 0
          case measure => have := HGK.out; simp at this; omega
          case rel => exact ⟨0, [d], rfl, by rw [HAP.out]; rfl, by simp, by omega, HD.out.trans HN.out, HB.out.trans ((Below.refl _ _).alloc HB.out.size _)⟩
      · have hu0 : u = 0 := by by_cases h : 0 < u; exact absurd (.inl h) hgo; omega
        have hl : l ≠ [] := fun h => hgo (.inr h)
        subst hu0
        have hN := HD.out
        rw [dd_end rfl hl] at hN
        have HN := Lib.hid hN
        have hne : (bytes l).toList.isEmpty = false := by rw [empty1]; simp [emptyB, bytes_size]; exact hl
        have HAP := Lib.hid (bytes_append [45] l)
        have hsz : ¬ 9223372036854775807 < 1 + (bytes l).size := by rw [bytes_size]; have := HLE.out; omega
        clear hgo hN hl
        go_wp2
        go_ret
        refine ⟨?_, HB.out⟩
        rw [Lib.itoa_neg _ hu0, HN.out]
        exact congrArg (fun s => Ending.returned (Value.string s)) HAP.out
  · obtain ⟨u0, rfl⟩ : ∃ u0 : Nat, v = (u0 : Int) := ⟨v.toNat, by omega⟩
    have hz2 : IntKind.u64.wrap (u0 : Int) = (u0 : Int) := by
      show (u0 : Int) % 18446744073709551616 = _
      omega
    have HU0 : Hid (u0 ≤ 4611686018427387904) := by show u0 ≤ 4611686018427387904; omega
    have hnn : ¬ (u0 : Int) < 0 := by omega
    clear h1 h2 hv
    go_enter Tryz.func38, Tryz.ntmps38
    go_wp2_with (go_at_call 60; refine HW.out.mono ?_; rintro e w' ⟨rfl, rfl⟩)
    have HL : Hid (DLoop w u0 (u0 + 1) (.int .u64 u0) (.string ⟨#[]⟩) w) := ⟨u0, [], rfl, rfl, by simp, Nat.le_refl _, by simp [dd], Below.refl _ _⟩
    go_loopg [4, 5] (u0 + 1) (fun gk s4 s5 wr => DLoop w u0 gk s4 s5 wr)
    case atStart => exact HL.out
    case round =>
      clear HL
      obtain ⟨u, l, rfl, rfl, hgk, hu, hd, hb⟩ := hrel
      have HB := Lib.hid hb
      have HGK := Lib.hid hgk
      have HD := Lib.hid hd
      have HU := Lib.hid hu
      have HLE : Hid (l.length ≤ 21) := (by have := dd_len u l; rw [← hd] at this; exact Nat.le_trans this (dlen u0 HU0.out))
      clear hb hgk hd hu
      have g0 : (0 : Int) ≤ (u : Int) := by omega
      have HSM : Hid (u ≤ 4611686018427387904) := Nat.le_trans HU.out HU0.out
      by_cases hgo : 0 < u ∨ l = []
      · have HN := Lib.hid (dd_next hgo)
        obtain ⟨d, hd⟩ : ∃ d, UInt8.ofNat (48 + u % 10) = d := ⟨_, rfl⟩
        have hdv := dig_val u
        rw [hd] at HN hdv
        have hcv := conv_one wr d (48 + (u : Int) % 10) hdv.symm
        have hb0 : (0 : Int) ≤ (u : Int) % 10 := by omega
        have hb1 : (u : Int) % 10 < 10 := by omega
        have HBS := Lib.hid (bytes_size l)
        have HAP := Lib.hid (bytes_append [d] l)
        have hs1 : ¬ 9223372036854775807 < 1 + (bytes l).size := by rw [bytes_size]; have := HLE.out; omega
        have HWQ : Hid (IntKind.u64.wrap ((u : Int) / 10) = ((u / 10 : Nat) : Int)) := by
          show (u : Int) / 10 % 18446744073709551616 = _
          have := HSM.out
          omega
        by_cases hu0 : 0 < u
        · have hu1 : (0 : Int) < (u : Int) := by omega
          clear hgo hd hdv
          go_wp2
          go_roundg (u / 10)
          case measure => have := HGK.out; omega
          case rel => exact ⟨u / 10, d :: l, by rw [HWQ.out], by rw [HAP.out]; rfl, by simp, by have := HU.out; omega, HD.out.trans HN.out, HB.out.trans ((Below.refl _ _).alloc HB.out.size _)⟩
        · have hl : l = [] := by rcases hgo with h | h; exact absurd h hu0; exact h
          subst hl
          obtain rfl : u = 0 := by omega
          clear hgo hd hdv
          replace hcv : (convert 102 9 (.slice (some ⟨wr.heap.size, 0, none⟩) 1 1)).run Tryz.prog (wr.alloc (.cells #[.int .u8 48] 5)) = .ok (.string (bytes [d])) (wr.alloc (.cells #[.int .u8 48] 5)) := hcv
          have he : bytes [] = ⟨#[]⟩ := rfl
          rw [he] at HAP hs1 ⊢
          clear he
          go_wp2
          go_roundg 0
          case measure => have := HGK.out; simp at this; omega
          case rel => exact ⟨0, [d], rfl, by rw [HAP.out]; rfl, by simp, by omega, HD.out.trans HN.out, HB.out.trans ((Below.refl _ _).alloc HB.out.size _)⟩
      · have hu0 : u = 0 := by by_cases h : 0 < u; exact absurd (.inl h) hgo; omega
        have hl : l ≠ [] := fun h => hgo (.inr h)
        subst hu0
        have hN := HD.out
        rw [dd_end rfl hl] at hN
        have HN := Lib.hid hN
        have hne : (bytes l).toList.isEmpty = false := by rw [empty1]; simp [emptyB, bytes_size]; exact hl
        have hsz : ¬ 9223372036854775807 < 1 + (bytes l).size := by rw [bytes_size]; have := HLE.out; omega
        clear hgo hN hl
        go_wp2
        go_ret
        refine ⟨?_, HB.out⟩
        rw [Lib.itoa_nonneg, HN.out]
        exact congrArg (fun s => Ending.returned (Value.string s)) rfl
end Go.Proofs.YtenikoecnfbfoaaGreatDoor
/- The reference's digits of bits. -/
namespace Go.Proofs.YtenikoecnfbfoaaGreatDoor
open Go.RowKit Go.Maps Wr
set_option linter.unusedVariables false

theorem hex_cut (u : Nat) (h : u < 16) : (ByteArray.mk #[48, 49, 50, 51, 52, 53, 54, 55, 56, 57, 97, 98, 99, 100, 101, 102]).extract u (u + 1) = bytes [hexB u] := by
  have key : ∀ k : Fin 16, ((ByteArray.mk #[48, 49, 50, 51, 52, 53, 54, 55, 56, 57, 97, 98, 99, 100, 101, 102]).extract k.val (k.val + 1)).data.toList = [hexB k.val] := by decide +kernel
  have := key ⟨u, h⟩
  apply Go.WideShapes.bytes_inj
  simpa [bytes] using this
theorem hexPad_ln : ∀ k x, (hexPad k x).length = k
  | 0, x => rfl
  | k + 1, x => by simp [hexPad, hexPad_ln k]
def BLoop (x : Nat) (w : World) (gk : Nat) (s4 s5 : Value) (wr : World) : Prop :=
  ∃ (j e : Nat), s5 = .int .i64 ((e : Int) - 4) ∧ e + 4 * j = 64 ∧ s4 = .string (bytes (hexPad j (x / 2 ^ e))) ∧ j + gk = 16 ∧ Below w.heap.size w wr
set_option maxRecDepth 100000 in
set_option maxHeartbeats 1600000 in
theorem refHex_any (x : Nat) (hx : x < 18446744073709551616) (w : World) : Calls Tryz.prog 61 #[.int .u64 x] w fun e w' => e = .returned (.string (bytes (hexPad 16 x))) ∧ Below w.heap.size w w' := by
  have HX := Lib.hid hx
  clear hx
  have HL : Hid (BLoop x w 16 (.string ⟨#[]⟩) (.int .i64 60) w) := ⟨0, 64, rfl, rfl, rfl, rfl, Below.refl _ _⟩
  go_enter Tryz.func61, Tryz.ntmps61
  go_wp2
  go_loopg [4, 5] 16 (fun gk s4 s5 wr => BLoop x w gk s4 s5 wr)
  case atStart => exact HL.out
  case round =>
    clear HL
    obtain ⟨j, e, rfl, he, rfl, hjk, hb⟩ := hrel
    have HB := Lib.hid hb
    clear hb
    by_cases hgo : 0 < gk
    · obtain ⟨i, rfl⟩ : ∃ i, e = i + 4 := ⟨e - 4, by omega⟩
      have hv : (((i + 4 : Nat) : Int) - 4) = (i : Int) := by omega
      rw [hv]
      have hi0 : (0 : Int) ≤ (i : Int) := by omega
      have hi1 : (i : Int) ≤ 60 := by omega
      have hlen := hexPad_ln j (x / 2 ^ (i + 4))
      obtain ⟨p, hp⟩ : ∃ p, hexPad j (x / 2 ^ (i + 4)) = p := ⟨_, rfl⟩
      rw [hp] at hlen ⊢
      obtain ⟨r, hr⟩ : ∃ r, x / 2 ^ i % 16 = r := ⟨_, rfl⟩
      have hr16 : r < 16 := by omega
      have ht : ((x : Int) / 2 ^ i).tmod 16 = (r : Int) := by
        have e : ((x : Int) / 2 ^ i) = ((x / 2 ^ i : Nat) : Int) := by push_cast; rfl
        rw [e, ← hr]
        rfl
      have hw1 : IntKind.u64.wrap ((r : Int) + 1) = (r : Int) + 1 := by
        show ((r : Int) + 1) % 18446744073709551616 = _
        omega
      have hcut := hex_cut r hr16
      have HP := Lib.hid hp
      have HR := Lib.hid hr
      have hs1 : ¬ 9223372036854775807 < (bytes p).size + 1 := by rw [bytes_size, hlen]; omega
      have hs2 : ¬ 9223372036854775807 < (bytes p).size + (bytes [hexB r]).size := by rw [bytes_size, bytes_size, hlen, List.length_singleton]; omega
      have hr1 : (r : Int) ≤ 15 := by omega
      have hr0 : (0 : Int) ≤ (r : Int) := by omega
      have hr2 : (r : Int) ≤ (r : Int) + 1 := by omega
      have hr3 : (r : Int) + 1 ≤ 16 := by omega
      have hr4 : r + 1 ≤ 16 := by omega
      have hsz : (ByteArray.mk #[48, 49, 50, 51, 52, 53, 54, 55, 56, 57, 97, 98, 99, 100, 101, 102]).size = 16 := rfl
      clear hp hr
      go_wp2
      go_quiet (fail)
      go_wp2
      go_roundg (gk - 1)
      case measure => omega
      case rel =>
        refine ⟨j + 1, i, rfl, by omega, ?_, by omega, below_drewN HB.out _⟩
        rw [bytes_append, hexPad, HR.out, Nat.div_div_eq_div_mul, show 2 ^ i * 16 = 2 ^ (i + 4) by rw [Nat.pow_add], HP.out]
    · obtain rfl : gk = 0 := by omega
      obtain rfl : j = 16 := by omega
      obtain rfl : e = 0 := by omega
      have hx1 : x / 2 ^ 0 = x := by simp
      rw [hx1]
      go_wp2
      go_ret
      exact ⟨rfl, HB.out⟩
end Go.Proofs.YtenikoecnfbfoaaGreatDoor
/- The reference's quote. -/
namespace Go.Proofs.YtenikoecnfbfoaaGreatDoor
open Go.RowKit Go.Maps Wr
set_option linter.unusedVariables false

def RqLoop (w : World) (s : ByteArray) (gk : Nat) (s4 s5 : Value) (wr : World) : Prop :=
  ∃ i : Nat, s5 = .int .i64 i ∧ i + gk = s.size ∧ s4 = .string (bytes (34 :: (s.data.toList.take i).flatMap qb)) ∧ Below w.heap.size w wr
set_option maxRecDepth 100000 in
set_option maxHeartbeats 1600000 in
theorem refQuote_any (s : ByteArray) (w : World) (hs : s.size ≤ 1000000) : Calls Tryz.prog 63 #[.string s] w fun e w' => e = .returned (.string (bytes (quoteB s.data.toList))) ∧ Below w.heap.size w w' := by
  have HL : Hid (RqLoop w s s.size (.string ⟨#[34]⟩) (.int .i64 0) w) := ⟨0, rfl, by omega, rfl, Below.refl _ _⟩
  go_enter Tryz.func63, Tryz.ntmps63
  go_wp2
  go_loopg [4, 5, 6] s.size (fun gk s4 s5 _ wr => RqLoop w s gk s4 s5 wr)
  case atStart => exact HL.out
  case round =>
    clear HL
    obtain ⟨i, rfl, hik, rfl, hb⟩ := hrel
    have HB := Lib.hid hb
    clear hb
    obtain ⟨p, hp⟩ : ∃ p, p = 34 :: (s.data.toList.take i).flatMap qb := ⟨_, rfl⟩
    have hpl : p.length ≤ 4000001 := by
      have := flat_len (s.data.toList.take i)
      have e : (s.data.toList.take i).length ≤ 1000000 := by simp; omega
      rw [hp, List.length_cons]; omega
    rw [← hp]
    have HP := Lib.hid hp
    have HPL := Lib.hid hpl
    clear hp hpl
    have g0 : (0 : Int) ≤ (i : Int) := by omega
    by_cases hlt : i < s.size
    · have g1 : (i : Int) < (s.size : Int) := by omega
      have HN := Lib.hid (q_next hlt)
      have hc0 : (0 : Int) ≤ (s[i].toNat : Int) := by omega
      have hc2 : (s[i].toNat : Int) < 256 := by have := UInt8.toNat_lt s[i]; omega
      by_cases h34 : (s[i].toNat : Int) = 34
      · have hq := qb_34 s[i] h34
        have HQ := Lib.hid hq
        have hcv := conv_one wr 34 34 rfl
        have hs1 : ¬ 9223372036854775807 < (bytes p).size + 1 := by rw [bytes_size]; have := HPL.out; omega
        have hs2 : ¬ 9223372036854775807 < (bytes p).size + 1 + (bytes [34]).size := by rw [bytes_size, bytes_size]; have := HPL.out; simp; omega
        clear hq
        go_wp2
        go_roundg (gk - 1)
        case measure => omega
        case rel => exact ⟨i + 1, by go_num, by omega, by rw [HN.out, ← HP.out, HQ.out, ← bytes_append]; exact congrArg Value.string (ByteArray.append_assoc (a := bytes p) (b := ⟨#[92]⟩) (c := bytes [34])), HB.out.trans ((Below.refl _ _).alloc HB.out.size _)⟩
      · by_cases h92 : (s[i].toNat : Int) = 92
        · have hq := qb_92 s[i] h92
          have HQ := Lib.hid hq
          have hcv := conv_one wr 92 92 rfl
          have hs1 : ¬ 9223372036854775807 < (bytes p).size + 1 := by rw [bytes_size]; have := HPL.out; omega
          have hs2 : ¬ 9223372036854775807 < (bytes p).size + 1 + (bytes [92]).size := by rw [bytes_size, bytes_size]; have := HPL.out; simp; omega
          clear hq
          go_wp2
          go_roundg (gk - 1)
          case measure => omega
          case rel => exact ⟨i + 1, by go_num, by omega, by rw [HN.out, ← HP.out, HQ.out, ← bytes_append]; exact congrArg Value.string (ByteArray.append_assoc (a := bytes p) (b := ⟨#[92]⟩) (c := bytes [92])), HB.out.trans ((Below.refl _ _).alloc HB.out.size _)⟩
        · have b1 : ((s[i].toNat : Int) == 34) = false := by simpa using h34
          have b2 : ((s[i].toNat : Int) == 92) = false := by simpa using h92
          by_cases hh : (s[i].toNat : Int) < 32 ∨ 126 < (s[i].toNat : Int)
          · have hq := qb_hex s[i] h34 h92 hh
            obtain ⟨a, ha⟩ : ∃ a, s[i].toNat / 16 = a := ⟨_, rfl⟩
            obtain ⟨b, hb⟩ : ∃ b, s[i].toNat % 16 = b := ⟨_, rfl⟩
            have ha16 : a < 16 := by omega
            have hb16 : b < 16 := by omega
            rw [ha, hb] at hq
            have HQ := Lib.hid hq
            have hd1 : (s[i].toNat : Int).tdiv 16 = (a : Int) := by rw [← ha]; rfl
            have hd2 : (s[i].toNat : Int) / 16 = (a : Int) := by rw [← ha]; rfl
            have hm1 : (s[i].toNat : Int).tmod 16 = (b : Int) := by rw [← hb]; rfl
            have hm2 : (s[i].toNat : Int) % 16 = (b : Int) := by rw [← hb]; rfl
            have hw1 : IntKind.u8.wrap ((a : Int) + 1) = (a : Int) + 1 := by rw [IntKind.wrap_u8]; omega
            have hw2 : IntKind.u8.wrap ((b : Int) + 1) = (b : Int) + 1 := by rw [IntKind.wrap_u8]; omega
            have hw3 : IntKind.u8.wrap (a : Int) = (a : Int) := by rw [IntKind.wrap_u8]; omega
            have hw4 : IntKind.u8.wrap (b : Int) = (b : Int) := by rw [IntKind.wrap_u8]; omega
            have hca := hex_cut a ha16
            have hcb := hex_cut b hb16
            have a0 : (0 : Int) ≤ (a : Int) := by omega
            have a1 : (a : Int) ≤ 15 := by omega
            have a3 : (a : Int) + 1 ≤ 16 := by omega
            have a4 : a + 1 ≤ 16 := by omega
            have a2 : (a : Int) ≤ (a : Int) + 1 := by omega
            have b2' : (b : Int) ≤ (b : Int) + 1 := by omega
            have b0 : (0 : Int) ≤ (b : Int) := by omega
            have b01 : (b : Int) ≤ 15 := by omega
            have b3 : (b : Int) + 1 ≤ 16 := by omega
            have b4 : b + 1 ≤ 16 := by omega
            have hsz : (ByteArray.mk #[48, 49, 50, 51, 52, 53, 54, 55, 56, 57, 97, 98, 99, 100, 101, 102]).size = 16 := rfl
            have hs1 : ¬ 9223372036854775807 < (bytes p).size + 2 := by rw [bytes_size]; have := HPL.out; omega
            have hs2 : ¬ 9223372036854775807 < (bytes p).size + 2 + (bytes [hexB a]).size := by rw [bytes_size, bytes_size]; have := HPL.out; simp; omega
            have hs3 : ¬ 9223372036854775807 < (bytes p).size + 2 + (bytes [hexB a]).size + (bytes [hexB b]).size := by rw [bytes_size, bytes_size, bytes_size]; have := HPL.out; simp; omega
            have HJ : Hid (bytes (p ++ [92, 120, hexB a, hexB b]) = bytes p ++ ⟨#[92, 120]⟩ ++ bytes [hexB a] ++ bytes [hexB b]) := by
              show _ = _
              rw [show (⟨#[92, 120]⟩ : ByteArray) = bytes [92, 120] from rfl, bytes_append, bytes_append, bytes_append]
              simp
            clear hq ha hb
            rcases hh with h5 | h5
            · go_wp2
              go_quiet (fail)
              go_wp2
              go_roundg (gk - 1)
              case measure => omega
              case rel => exact ⟨i + 1, by go_num, by omega, by rw [HN.out, ← HP.out, HQ.out, HJ.out], below_drewN HB.out _⟩
            · have h6 : ¬ (s[i].toNat : Int) < 32 := by omega
              go_wp2
              go_quiet (fail)
              go_wp2
              go_roundg (gk - 1)
              case measure => omega
              case rel => exact ⟨i + 1, by go_num, by omega, by rw [HN.out, ← HP.out, HQ.out, HJ.out], below_drewN HB.out _⟩
          · have hq := qb_plain s[i] h34 h92 (by omega) (by omega)
            have HQ := Lib.hid hq
            have hcv := conv_one wr s[i] (s[i].toNat : Int) rfl
            have h5 : ¬ (s[i].toNat : Int) < 32 := by omega
            have h6 : ¬ 126 < (s[i].toNat : Int) := by omega
            have hs2 : ¬ 9223372036854775807 < (bytes p).size + (bytes [s[i]]).size := by rw [bytes_size, bytes_size]; have := HPL.out; simp; omega
            clear hq hh
            go_wp2
            go_roundg (gk - 1)
            case measure => omega
            case rel => exact ⟨i + 1, by go_num, by omega, by rw [HN.out, ← HP.out, HQ.out, ← bytes_append], HB.out.trans ((Below.refl _ _).alloc HB.out.size _)⟩
    · obtain rfl : i = s.size := by omega
      have HZ : Hid (quoteB s.data.toList = p ++ [34]) := by show _ = _; rw [HP.out, List.take_of_length_le (by simp)]; rfl
      have hs1 : ¬ 9223372036854775807 < (bytes p).size + 1 := by rw [bytes_size]; have := HPL.out; omega
      go_wp2
      go_ret
      refine ⟨?_, HB.out⟩
      rw [HZ.out, ← bytes_append]
      rfl
end Go.Proofs.YtenikoecnfbfoaaGreatDoor
