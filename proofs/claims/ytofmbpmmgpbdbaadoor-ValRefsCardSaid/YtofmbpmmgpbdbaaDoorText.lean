/- The program's Text. -/
import Derived.Test.YtofmbpmmgpbdbaaDoorQuote
import Derived.WalkSmall
import Derived.Lib.ItoaLen
namespace Go.Proofs.YtofmbpmmgpbdbaaDoor
open Go.RowKit Go.Maps Go.Sort Wr
set_option linter.unusedVariables false

abbrev Tab (w : World) : Prop := Lib.TabIs Tryd.prog w "internal/strconv.uint64pow10" .u64 Lib.pow10Tab
theorem Tab.below {w w' : World} (h : Tab w) (hb : Below w.heap.size w w') : Tab w' := by
  have hg : Tryd.prog.globalNamed "internal/strconv.uint64pow10" = some 2 := by kernel_rfl
  have hc := World.var?_cell hg h 0
  exact var?_below hb hg (lt_of_cell (v := .int .u64 1) (by rw [hc]; rfl)) h
theorem below_grow (w : World) (k : Nat) (os : Array Obj) : Below w.heap.size w (grow (w.drewN k) os) :=
  ⟨rfl, rfl, rfl, by simp, fun i hi => by rw [heap_grow_old _ _ (by simpa using hi)]; simp⟩
set_option maxRecDepth 100000 in
theorem numText_any (n : Int) (w : World) (ht : Tab w) : Calls Tryd.prog 31 #[.int .i64 n] w fun e w' => e = .returned (.string (bytes (Lib.itoa (wr n)))) ∧ Below w.heap.size w w' := by
  have h1 := wr_ge n
  have h2 := wr_le n
  have HI := Lib.hid (Tryd.strconv_Itoa (wr n) (by omega) (by omega) w ht)
  go_enter Tryd.func31, Tryd.ntmps31
  go_wp2_with (first
    | (go_at_call 59; refine (wrap_any _ _).mono ?_; rintro e w' ⟨rfl, rfl⟩)
    | (go_at_call 58; refine HI.out.mono ?_; rintro e w5 ⟨rfl, k, os, rfl⟩))
  go_ret
  exact ⟨rfl, below_grow _ _ _⟩

def topTxt (F : Nat → List UInt8) (k n : Int) (s : ByteArray) (j : List UInt8) (m : Nat) : List UInt8 :=
  if k = 0 then Lib.itoa (wr n) else if k = 1 then F (bitsOf s.data.toList) else if k = 2 then quoteB s.data.toList else if k = 3 then 67 :: (Lib.itoa (wr n) ++ if m = 0 then [] else 40 :: (j ++ [41])) else if k = 4 then 40 :: (j ++ [41]) else if k = 5 then 64 :: Lib.itoa (wr n) else [40, 41]
namespace VT
mutual
def txt (F : Nat → List UInt8) : VT → List UInt8
  | node k n s l => topTxt F k n s (Lib.join (txts F l) [44]) l.length
def txts (F : Nat → List UInt8) : List VT → List (List UInt8)
  | [] => []
  | t :: l => txt F t :: txts F l
end
mutual
/-- No float in it. -/
def noFl : VT → Bool
  | node k _ _ l => decide (k ≠ 1) && noFls l
def noFls : List VT → Bool
  | [] => true
  | t :: l => noFl t && noFls l
end
theorem txt_node (F : Nat → List UInt8) (k n : Int) (s : ByteArray) (l : List VT) : txt F (node k n s l) = topTxt F k n s (Lib.join (txts F l) [44]) l.length := by rw [txt]
theorem txts_map (F : Nat → List UInt8) : ∀ l : List VT, txts F l = l.map (txt F)
  | [] => by rw [txts]; rfl
  | t :: l => by rw [txts, txts_map F l]; rfl
theorem noFls_get : ∀ {l : List VT} {i : Nat} {t : VT}, noFls l = true → l[i]? = some t → t.noFl = true
  | [], _, _, _, h => by cases h
  | t :: l, 0, u, h, hi => by rw [List.getElem?_cons_zero] at hi; cases hi; rw [noFls, Bool.and_eq_true] at h; exact h.1
  | t :: l, i + 1, u, h, hi => by rw [List.getElem?_cons_succ] at hi; rw [noFls, Bool.and_eq_true] at h; exact noFls_get h.2 hi
theorem noFl_kids {k n : Int} {s : ByteArray} {l : List VT} (h : (node k n s l).noFl = true) : noFls l = true := by rw [noFl, Bool.and_eq_true] at h; exact h.2
end VT
theorem fits_none {k n : Int} {s : ByteArray} {m : Nat} (h : fitsB k n s m = true) (h3 : k ≠ 3) (h4 : k ≠ 4) : m = 0 := by
  unfold fitsB at h
  rw [if_neg h3, if_neg h4] at h
  split at h
  · simp only [Bool.and_eq_true, decide_eq_true_eq] at h; exact h.2
  · split at h
    · simp only [Bool.and_eq_true, decide_eq_true_eq] at h; exact h.1.2
    · split at h
      · simp only [Bool.and_eq_true, decide_eq_true_eq] at h; exact h.2
      · split at h
        · simp only [Bool.and_eq_true, decide_eq_true_eq] at h; exact h.2
        · split at h
          · simp only [Bool.and_eq_true, decide_eq_true_eq] at h; exact h.2
          · cases h
theorem join_le (sep : List UInt8) : ∀ {xs : List (List UInt8)} {i : Nat} {x : List UInt8}, xs[i]? = some x → x.length ≤ (Lib.join xs sep).length
  | [], _, _, h => by cases h
  | [y], 0, x, h => by rw [List.getElem?_cons_zero] at h; cases h; rw [Lib.join_one]; exact Nat.le_refl _
  | [y], i + 1, x, h => by cases h
  | y :: z :: r, 0, x, h => by rw [List.getElem?_cons_zero] at h; cases h; rw [Lib.join_cons, List.length_append]; omega
  | y :: z :: r, i + 1, x, h => by
    rw [List.getElem?_cons_succ] at h
    have := join_le sep h
    rw [Lib.join_cons, Lib.joinTail, List.map_cons, List.flatten_cons]
    rw [Lib.join_cons, Lib.joinTail] at this
    simp only [List.length_append] at this ⊢
    omega

theorem infoS : (Tryd.prog.info? 9).map (fun i => (i.zero, i.size, i.bytes)) = some (some (.string ⟨#[]⟩), 1, 16) := by kernel_rfl
def svals (l : List (List UInt8)) : List Value := l.map fun b => Value.string (bytes b)
theorem svals_length (l : List (List UInt8)) : (svals l).length = l.length := by simp [svals]
def TxtLoop (F : Nat → List UInt8) (N : Nat) (W : World) (l : List VT) (k : Nat) (s3 s10 : Value) (w : World) : Prop :=
  ∃ (i : Nat), s10 = .int .i64 i ∧ i + k = l.length ∧ Row w 9 s3 (svals (VT.txts F (l.take i))) ∧ (∀ b, s3.ownBlock = some b → N ≤ b) ∧ Below N W w
theorem txts_next (F : Nat → List UInt8) {l : List VT} {i : Nat} {t : VT} (h : l[i]? = some t) : svals (VT.txts F (l.take (i + 1))) = svals (VT.txts F (l.take i)) ++ [.string (bytes (t.txt F))] := by
  obtain ⟨hi, rfl⟩ := List.getElem?_eq_some_iff.1 h
  rw [VT.txts_map, VT.txts_map, List.take_succ_eq_append_getElem hi]
  simp only [svals, List.map_append, List.map_cons, List.map_nil]
/-- strings.Join of the texts. -/
theorem join_row {F : Nat → List UInt8} {l : List VT} {v : Value} {w : World} (hr : Row w 9 v (svals (VT.txts F l))) (hl : (Lib.join (VT.txts F l) [44]).length ≤ 1000000) (hn : l.length ≤ 1000000) :
    Calls Tryd.prog 30 #[v, .string ⟨#[44]⟩] w fun e w' => e = .returned (.string (bytes (Lib.join (VT.txts F l) [44]))) ∧ Below w.heap.size w w' := by
  have hlen : (VT.txts F l).length = l.length := by rw [VT.txts_map, List.length_map]
  rcases hr.shape with ⟨rfl, h0⟩ | ⟨g, cap, rfl, h1, h2, h3⟩
  · have e : VT.txts F l = [] := by simpa [svals] using h0
    rw [e]
    exact (Tryd.strings_Join_none none 0 ⟨#[44]⟩ w).mono fun e w' h => ⟨h.1, h.2 ▸ Below.refl _ _⟩
  · rw [svals_length] at h1 hr ⊢
    have := Tryd.strings_Join g 0 cap ((VT.txts F l).map bytes) ⟨#[44]⟩ w (fun j x hx => by
      have hj : j < (svals (VT.txts F l)).length := by rw [svals_length]; simpa using (List.getElem?_eq_some_iff.1 hx).1
      rw [Nat.zero_add, hr.cellAt j hj]
      simp only [svals, List.getElem?_map, Option.map_eq_some_iff] at hx ⊢
      obtain ⟨a, ha, rfl⟩ := hx
      exact ⟨a, ha, rfl⟩) h3 (by rw [List.length_map, hlen]; omega) (by rw [List.length_map]; exact h1) (by
        rw [List.map_map, show (fun x : ByteArray => x.data.toList) ∘ bytes = id from funext fun l => by simp [bytes], List.map_id]
        have : (Lib.join (VT.txts F l) [44]).length ≤ 1000000 := hl
        exact Nat.le_trans this (by decide))
    rw [List.length_map, List.map_map, show (fun x : ByteArray => x.data.toList) ∘ bytes = id from funext fun l => by simp [bytes], List.map_id] at this
    exact this

section
variable (F : Nat → List UInt8) (Fl : Bool) (w0 : World) (hT : Tab w0) (hF : Fl = true → ∀ (x : Nat) (w : World), x < 18446744073709551616 → Below w0.heap.size w0 w → Calls Tryd.prog 33 #[.int .u64 x] w fun e w' => e = .returned (.string (bytes (F x))) ∧ Below w.heap.size w w')
variable (k : Nat) (ih : ∀ (t : VT) (vt : Value) (w : World) (P : Nat → Prop) (d : Int), t.sz ≤ k → t.right d = true → (Fl = true ∨ t.noFl = true) → ValIs w P t vt → (∀ x, P x → x < w.heap.size) → Below w0.heap.size w0 w → (t.txt F).length ≤ 1000000 →
    Calls Tryd.prog 17 #[vt] w fun e w' => e = .returned (.string (bytes (t.txt F))) ∧ Below w.heap.size w w')
include hT ih in
set_option maxRecDepth 100000 in
set_option maxHeartbeats 3200000 in
theorem text_0 (na : Int) (sa : ByteArray) (la : List VT) (w : World) (P : Nat → Prop) (d : Int) (ao : Option Addr) (cap : Nat) (hk : (VT.node 0 na sa la).sz ≤ k + 1) (hr : (VT.node 0 na sa la).right d = true) (hfl : Fl = true ∨ (VT.node 0 na sa la).noFl = true)
    (a1 : la.length ≤ cap) (a2 : cap ≤ maxLen) (a7 : KidsAt w P la ao 0) (hP : ∀ x, P x → x < w.heap.size) (hw : Below w0.heap.size w0 w) (hlen : ((VT.node 0 na sa la).txt F).length ≤ 1000000) :
    Calls Tryd.prog 17 #[.agg #[.int .i64 0, .int .i64 na, .string sa, .slice ao la.length cap]] w fun e w' => e = .returned (.string (bytes ((VT.node 0 na sa la).txt F))) ∧ Below w.heap.size w w' := by
  obtain ⟨hf, hrs', hd⟩ := VT.right_parts hr
  have hrs := Lib.hid hrs'
  have hfp := fits_parts hf
  have hl8 : la.length ≤ 8 := hfp.2.2.1
  have HFL : Hid (Fl = true ∨ VT.noFls la = true) := hfl.imp id VT.noFl_kids
  have HX := Lib.hid (VT.txt_node F 0 na sa la)
  have HLEN : Hid ((topTxt F 0 na sa (Lib.join (VT.txts F la) [44]) la.length).length ≤ 1000000) := by rw [VT.txt_node] at hlen; exact hlen
  have HJ : Hid ((Lib.join (VT.txts F la) [44]).length ≤ 1000000) := by
    have : la = [] := List.length_eq_zero_iff.1 (fits_none hf (by decide) (by decide))
    subst this
    show _ ≤ _
    simp [VT.txts, Lib.join_nil]
  unfold maxLen at a2
  have HW := Lib.hid hw
  have HT : Hid (∀ W, Below w.heap.size w W → Tab W) := fun W hW => hT.below (hw.trans (hW.mono hw.size))

  clear hrs' hr hlen hw hT hfl hf
  go_enter Tryd.func17, Tryd.ntmps17
  go_wp2
  have HL : Hid (TxtLoop F (w.heap.size + 1) (w.alloc (.cells #[.int .i64 0, .int .i64 na, .string sa, .slice ao la.length cap] 24)) la la.length (.slice none 0 0) (.int .i64 0) (w.alloc (.cells #[.int .i64 0, .int .i64 na, .string sa, .slice ao la.length cap] 24))) := ⟨0, rfl, by omega, Row.nil _ _, fun b h => by simp [Value.ownBlock] at h, Below.refl _ _⟩
  go_loopg [3, 10] la.length (fun k s3 s10 wr => TxtLoop F (w.heap.size + 1) (w.alloc (.cells #[.int .i64 0, .int .i64 na, .string sa, .slice ao la.length cap] 24)) la k s3 s10 wr)
  case atStart => exact HL.out
  case round =>
    clear HL
    obtain ⟨i, rfl, hik, hrow, hob, hb⟩ := hrel
    have HB := Lib.hid hb
    have HR := Lib.hid hrow
    have HO := Lib.hid hob
    have hb0 : Below (w.alloc (.cells #[.int .i64 0, .int .i64 na, .string sa, .slice ao la.length cap] 24)).heap.size (w.alloc (.cells #[.int .i64 0, .int .i64 na, .string sa, .slice ao la.length cap] 24)) wr := by simpa using hb
    obtain ⟨c0, c1, c2, c3, hb6⟩ := cells_below hb0
    clear hb0
    have H6 := Lib.hid hb6
    have HS1 : Hid (w.heap.size + 1 ≤ wr.heap.size) := by have := HB.out.size; show _ ≤ _; simpa using this
    clear hb hrow hob hb6
    by_cases hlt : i < la.length
    · obtain ⟨tk, htk⟩ : ∃ u, la[i]? = some u := ⟨_, List.getElem?_eq_getElem hlt⟩
      obtain ⟨bb, oo, _, _, _, _, rfl, hbb, _⟩ := a7.get htk
      obtain ⟨_, aok, capk, p0, p1, p2, p3, hvk⟩ := a7.cells htk
      unfold vval at hvk
      rw [Nat.zero_add] at p0 p1 p2 p3
      have hbb' := hP _ hbb
      have cc : ∀ j, wr.cell? ⟨bb, j, none⟩ = w.cell? ⟨bb, j, none⟩ := fun j => H6.out.cell (p := ⟨bb, j, none⟩) hbb'
      replace p0 := (cc _).trans p0
      replace p1 := (cc _).trans p1
      replace p2 := (cc _).trans p2
      replace p3 := (cc _).trans p3
      have hvk' : Hid (ValIs wr P tk (.agg #[.int .i64 tk.kind, .int .i64 tk.num, .string tk.text, .slice aok tk.kids.length capk])) := hvk.below H6.out hP
      have hkid : Hid (tk.sz ≤ k) := by
        have h5 : tk.sz < (VT.node 0 na sa la).sz := VT.sz_kid (t := VT.node 0 na sa la) htk
        show tk.sz ≤ k; omega
      have hrk := Lib.hid (VT.rights_get hrs.out htk)
      have hflk : Hid (Fl = true ∨ tk.noFl = true) := HFL.out.imp id fun h => VT.noFls_get h htk
      have htl : Hid ((tk.txt F).length ≤ 1000000) := Nat.le_trans (join_le [44] (i := i) (by rw [VT.txts_map, List.getElem?_map, htk]; rfl)) HJ.out
      have hnext := Lib.hid (txts_next F htk)
      have hsl : Hid ((svals (VT.txts F (la.take i))).length = i) := by show _ = _; rw [svals_length, VT.txts_map, List.length_map, List.length_take]; omega
      have g1' : (i : Int) < (la.length : Int) := by omega
      have hi0 : (0 : Int) ≤ (i : Int) := by omega
      clear hvk htk cc
      go_wp2_with (first
        | ((go_at_call 17; refine (ih tk _ _ P (d + 1) hkid.out hrk.out hflk.out (hvk'.out.below ((Below.refl _ _).alloc (Nat.le_refl _) _) (fun b hb => Nat.lt_of_lt_of_le (hP b hb) H6.out.size)) (fun x hx => by have := hP x hx; have := H6.out.size; simp; omega) (HW.out.trans ((H6.out.trans (((Below.refl _ _).alloc (Nat.le_refl _) _).mono H6.out.size)).mono HW.out.size)) htl.out).mono ?_; rintro e w7 ⟨rfl, hb7⟩; have HB7 := Lib.hid hb7; have B7 : Hid (Below wr.heap.size wr w7) := ((Below.refl _ _).alloc (Nat.le_refl _) _).trans (hb7.mono (by simp)); clear hb7))
        | (at_builtin; (refine wpList_app _ rfl _ _ 56 rfl 9 (.string ⟨#[]⟩) 16 Tryd.underlying56 infoS rfl u3 (svals (VT.txts F (la.take i))) rfl (World.ownsRow.alloc (HR.out.chg (F := []) ⟨B7.out.os, B7.out.tape, B7.out.output, B7.out.size, fun i hi _ => B7.out.block i hi⟩ (fun _ _ => by simp)) _) ⟨w7.heap.size, 0, none⟩ 1 1 [.string (bytes (tk.txt F))] rfl (by omega) rfl (cell_one_new _ _ _) (by intro u hu; simp at hu; rw [hu]; rfl) (by have := hsl.out; omega) (by omega) ?_; intro g cap9 w9 hr9 hg9 hl9)))
      have hbe : Hid (Below (w.heap.size + 1) wr w9) := by
        have hc : Chg u3.ownBlock.toList w7 w9 := ((Chg.refl _ w7).alloc _).grown hg9 (fun k hk => .inl (by simp [hk]))
        exact (B7.out.mono HS1.out).trans (hc.below (Nat.le_trans HS1.out B7.out.size) (fun k hk => HO.out k (by simpa using hk)))
      go_roundg (gk - 1)
      case measure => omega
      case rel =>
        refine ⟨i + 1, by go_num, by omega, by rw [hnext.out]; exact hr9, ?_, HB.out.trans hbe.out⟩
        intro b hb
        simp only [Value.ownBlock, Option.some.injEq] at hb
        subst hb
        rcases hl9 with e | e
        · exact HO.out _ e
        · have := HS1.out; have := B7.out.size; simp at e; omega
    · obtain rfl : i = la.length := by omega
      have HR2 : Hid (Row wr 9 u3 (svals (VT.txts F la))) := by have := HR.out; rwa [List.take_length] at this
      have HJN := Lib.hid (join_row HR2.out HJ.out (by omega))
      have hlu : ∃ ao3 cap3, u3 = .slice ao3 la.length cap3 := by
        obtain ⟨ao3, cap3, h, _⟩ := HR2.out.form
        exact ⟨ao3, cap3, by rw [h, svals_length, VT.txts_map, List.length_map]⟩
      have HN1 : ∀ s : ByteArray, s.size ≤ 2000000 → ¬ 9223372036854775807 < s.size + 1 := fun s h => by omega
      have hj1 : ¬ 9223372036854775807 < 1 + (bytes (Lib.join (VT.txts F la) [44])).size := by rw [bytes_size]; have := HJ.out; omega
      have hj2 : ¬ 9223372036854775807 < 1 + (bytes (Lib.join (VT.txts F la) [44])).size + 1 := by rw [bytes_size]; have := HJ.out; omega
      generalize hjj : bytes (Lib.join (VT.txts F la) [44]) = jj at HJN hj1 hj2
      have HJJ := Lib.hid hjj
      clear hjj HN1
      obtain ⟨ao3, cap3, rfl⟩ := hlu
      go_wp2_with (first
        | (go_at_call 30; refine HJN.out.mono ?_; rintro e w5 ⟨rfl, hb5⟩; have H5 := Lib.hid (H6.out.trans (hb5.mono H6.out.size)); have HBJ : Hid (Below (w.alloc (.cells #[.int .i64 0, .int .i64 na, .string sa, .slice ao la.length cap] 24)).heap.size (w.alloc (.cells #[.int .i64 0, .int .i64 na, .string sa, .slice ao la.length cap] 24)) w5) := (by have := HB.out.trans (hb5.mono HS1.out); show Below _ _ _; simpa using this); obtain ⟨d0, d1, d2, d3, _⟩ := cells_below HBJ.out; clear hb5)
        | (go_at_call 31; refine (numText_any na _ (HT.out _ H5.out)).mono ?_; rintro e w7 ⟨rfl, hb7⟩; have H7 := Lib.hid (H5.out.trans (hb7.mono H5.out.size)); clear hb7))
      all_goals
        go_ret
        refine ⟨ret_str ?_, H7.out⟩
        rw [HX.out]
        rfl
include hT ih in
set_option maxRecDepth 100000 in
set_option maxHeartbeats 3200000 in
theorem text_2 (na : Int) (sa : ByteArray) (la : List VT) (w : World) (P : Nat → Prop) (d : Int) (ao : Option Addr) (cap : Nat) (hk : (VT.node 2 na sa la).sz ≤ k + 1) (hr : (VT.node 2 na sa la).right d = true) (hfl : Fl = true ∨ (VT.node 2 na sa la).noFl = true)
    (a1 : la.length ≤ cap) (a2 : cap ≤ maxLen) (a7 : KidsAt w P la ao 0) (hP : ∀ x, P x → x < w.heap.size) (hw : Below w0.heap.size w0 w) (hlen : ((VT.node 2 na sa la).txt F).length ≤ 1000000) :
    Calls Tryd.prog 17 #[.agg #[.int .i64 2, .int .i64 na, .string sa, .slice ao la.length cap]] w fun e w' => e = .returned (.string (bytes ((VT.node 2 na sa la).txt F))) ∧ Below w.heap.size w w' := by
  obtain ⟨hf, hrs', hd⟩ := VT.right_parts hr
  have hrs := Lib.hid hrs'
  have hfp := fits_parts hf
  have hl8 : la.length ≤ 8 := hfp.2.2.1
  have HFL : Hid (Fl = true ∨ VT.noFls la = true) := hfl.imp id VT.noFl_kids
  have HX := Lib.hid (VT.txt_node F 2 na sa la)
  have HLEN : Hid ((topTxt F 2 na sa (Lib.join (VT.txts F la) [44]) la.length).length ≤ 1000000) := by rw [VT.txt_node] at hlen; exact hlen
  have HJ : Hid ((Lib.join (VT.txts F la) [44]).length ≤ 1000000) := by
    have : la = [] := List.length_eq_zero_iff.1 (fits_none hf (by decide) (by decide))
    subst this
    show _ ≤ _
    simp [VT.txts, Lib.join_nil]
  unfold maxLen at a2
  have HW := Lib.hid hw
  have HT : Hid (∀ W, Below w.heap.size w W → Tab W) := fun W hW => hT.below (hw.trans (hW.mono hw.size))

  clear hrs' hr hlen hw hT hfl hf
  go_enter Tryd.func17, Tryd.ntmps17
  go_wp2
  have HL : Hid (TxtLoop F (w.heap.size + 1) (w.alloc (.cells #[.int .i64 2, .int .i64 na, .string sa, .slice ao la.length cap] 24)) la la.length (.slice none 0 0) (.int .i64 0) (w.alloc (.cells #[.int .i64 2, .int .i64 na, .string sa, .slice ao la.length cap] 24))) := ⟨0, rfl, by omega, Row.nil _ _, fun b h => by simp [Value.ownBlock] at h, Below.refl _ _⟩
  go_loopg [3, 10] la.length (fun k s3 s10 wr => TxtLoop F (w.heap.size + 1) (w.alloc (.cells #[.int .i64 2, .int .i64 na, .string sa, .slice ao la.length cap] 24)) la k s3 s10 wr)
  case atStart => exact HL.out
  case round =>
    clear HL
    obtain ⟨i, rfl, hik, hrow, hob, hb⟩ := hrel
    have HB := Lib.hid hb
    have HR := Lib.hid hrow
    have HO := Lib.hid hob
    have hb0 : Below (w.alloc (.cells #[.int .i64 2, .int .i64 na, .string sa, .slice ao la.length cap] 24)).heap.size (w.alloc (.cells #[.int .i64 2, .int .i64 na, .string sa, .slice ao la.length cap] 24)) wr := by simpa using hb
    obtain ⟨c0, c1, c2, c3, hb6⟩ := cells_below hb0
    clear hb0
    have H6 := Lib.hid hb6
    have HS1 : Hid (w.heap.size + 1 ≤ wr.heap.size) := by have := HB.out.size; show _ ≤ _; simpa using this
    clear hb hrow hob hb6
    by_cases hlt : i < la.length
    · obtain ⟨tk, htk⟩ : ∃ u, la[i]? = some u := ⟨_, List.getElem?_eq_getElem hlt⟩
      obtain ⟨bb, oo, _, _, _, _, rfl, hbb, _⟩ := a7.get htk
      obtain ⟨_, aok, capk, p0, p1, p2, p3, hvk⟩ := a7.cells htk
      unfold vval at hvk
      rw [Nat.zero_add] at p0 p1 p2 p3
      have hbb' := hP _ hbb
      have cc : ∀ j, wr.cell? ⟨bb, j, none⟩ = w.cell? ⟨bb, j, none⟩ := fun j => H6.out.cell (p := ⟨bb, j, none⟩) hbb'
      replace p0 := (cc _).trans p0
      replace p1 := (cc _).trans p1
      replace p2 := (cc _).trans p2
      replace p3 := (cc _).trans p3
      have hvk' : Hid (ValIs wr P tk (.agg #[.int .i64 tk.kind, .int .i64 tk.num, .string tk.text, .slice aok tk.kids.length capk])) := hvk.below H6.out hP
      have hkid : Hid (tk.sz ≤ k) := by
        have h5 : tk.sz < (VT.node 2 na sa la).sz := VT.sz_kid (t := VT.node 2 na sa la) htk
        show tk.sz ≤ k; omega
      have hrk := Lib.hid (VT.rights_get hrs.out htk)
      have hflk : Hid (Fl = true ∨ tk.noFl = true) := HFL.out.imp id fun h => VT.noFls_get h htk
      have htl : Hid ((tk.txt F).length ≤ 1000000) := Nat.le_trans (join_le [44] (i := i) (by rw [VT.txts_map, List.getElem?_map, htk]; rfl)) HJ.out
      have hnext := Lib.hid (txts_next F htk)
      have hsl : Hid ((svals (VT.txts F (la.take i))).length = i) := by show _ = _; rw [svals_length, VT.txts_map, List.length_map, List.length_take]; omega
      have g1' : (i : Int) < (la.length : Int) := by omega
      have hi0 : (0 : Int) ≤ (i : Int) := by omega
      clear hvk htk cc
      go_wp2_with (first
        | ((go_at_call 17; refine (ih tk _ _ P (d + 1) hkid.out hrk.out hflk.out (hvk'.out.below ((Below.refl _ _).alloc (Nat.le_refl _) _) (fun b hb => Nat.lt_of_lt_of_le (hP b hb) H6.out.size)) (fun x hx => by have := hP x hx; have := H6.out.size; simp; omega) (HW.out.trans ((H6.out.trans (((Below.refl _ _).alloc (Nat.le_refl _) _).mono H6.out.size)).mono HW.out.size)) htl.out).mono ?_; rintro e w7 ⟨rfl, hb7⟩; have HB7 := Lib.hid hb7; have B7 : Hid (Below wr.heap.size wr w7) := ((Below.refl _ _).alloc (Nat.le_refl _) _).trans (hb7.mono (by simp)); clear hb7))
        | (at_builtin; (refine wpList_app _ rfl _ _ 56 rfl 9 (.string ⟨#[]⟩) 16 Tryd.underlying56 infoS rfl u3 (svals (VT.txts F (la.take i))) rfl (World.ownsRow.alloc (HR.out.chg (F := []) ⟨B7.out.os, B7.out.tape, B7.out.output, B7.out.size, fun i hi _ => B7.out.block i hi⟩ (fun _ _ => by simp)) _) ⟨w7.heap.size, 0, none⟩ 1 1 [.string (bytes (tk.txt F))] rfl (by omega) rfl (cell_one_new _ _ _) (by intro u hu; simp at hu; rw [hu]; rfl) (by have := hsl.out; omega) (by omega) ?_; intro g cap9 w9 hr9 hg9 hl9)))
      have hbe : Hid (Below (w.heap.size + 1) wr w9) := by
        have hc : Chg u3.ownBlock.toList w7 w9 := ((Chg.refl _ w7).alloc _).grown hg9 (fun k hk => .inl (by simp [hk]))
        exact (B7.out.mono HS1.out).trans (hc.below (Nat.le_trans HS1.out B7.out.size) (fun k hk => HO.out k (by simpa using hk)))
      go_roundg (gk - 1)
      case measure => omega
      case rel =>
        refine ⟨i + 1, by go_num, by omega, by rw [hnext.out]; exact hr9, ?_, HB.out.trans hbe.out⟩
        intro b hb
        simp only [Value.ownBlock, Option.some.injEq] at hb
        subst hb
        rcases hl9 with e | e
        · exact HO.out _ e
        · have := HS1.out; have := B7.out.size; simp at e; omega
    · obtain rfl : i = la.length := by omega
      have HR2 : Hid (Row wr 9 u3 (svals (VT.txts F la))) := by have := HR.out; rwa [List.take_length] at this
      have HJN := Lib.hid (join_row HR2.out HJ.out (by omega))
      have hlu : ∃ ao3 cap3, u3 = .slice ao3 la.length cap3 := by
        obtain ⟨ao3, cap3, h, _⟩ := HR2.out.form
        exact ⟨ao3, cap3, by rw [h, svals_length, VT.txts_map, List.length_map]⟩
      have HN1 : ∀ s : ByteArray, s.size ≤ 2000000 → ¬ 9223372036854775807 < s.size + 1 := fun s h => by omega
      have hj1 : ¬ 9223372036854775807 < 1 + (bytes (Lib.join (VT.txts F la) [44])).size := by rw [bytes_size]; have := HJ.out; omega
      have hj2 : ¬ 9223372036854775807 < 1 + (bytes (Lib.join (VT.txts F la) [44])).size + 1 := by rw [bytes_size]; have := HJ.out; omega
      generalize hjj : bytes (Lib.join (VT.txts F la) [44]) = jj at HJN hj1 hj2
      have HJJ := Lib.hid hjj
      clear hjj HN1
      obtain ⟨ao3, cap3, rfl⟩ := hlu
      go_wp2_with (first
        | (go_at_call 30; refine HJN.out.mono ?_; rintro e w5 ⟨rfl, hb5⟩; have H5 := Lib.hid (H6.out.trans (hb5.mono H6.out.size)); have HBJ : Hid (Below (w.alloc (.cells #[.int .i64 2, .int .i64 na, .string sa, .slice ao la.length cap] 24)).heap.size (w.alloc (.cells #[.int .i64 2, .int .i64 na, .string sa, .slice ao la.length cap] 24)) w5) := (by have := HB.out.trans (hb5.mono HS1.out); show Below _ _ _; simpa using this); obtain ⟨d0, d1, d2, d3, _⟩ := cells_below HBJ.out; clear hb5)
        | (go_at_call 34; refine (quote_any sa _ (by have := hfp; omega)).mono ?_; rintro e w7 ⟨rfl, hb7⟩; have H7 := Lib.hid (H5.out.trans (hb7.mono H5.out.size)); clear hb7))
      all_goals
        go_ret
        refine ⟨ret_str ?_, H7.out⟩
        rw [HX.out]
        rfl
include hT ih in
set_option maxRecDepth 100000 in
set_option maxHeartbeats 3200000 in
theorem text_4 (na : Int) (sa : ByteArray) (la : List VT) (w : World) (P : Nat → Prop) (d : Int) (ao : Option Addr) (cap : Nat) (hk : (VT.node 4 na sa la).sz ≤ k + 1) (hr : (VT.node 4 na sa la).right d = true) (hfl : Fl = true ∨ (VT.node 4 na sa la).noFl = true)
    (a1 : la.length ≤ cap) (a2 : cap ≤ maxLen) (a7 : KidsAt w P la ao 0) (hP : ∀ x, P x → x < w.heap.size) (hw : Below w0.heap.size w0 w) (hlen : ((VT.node 4 na sa la).txt F).length ≤ 1000000) :
    Calls Tryd.prog 17 #[.agg #[.int .i64 4, .int .i64 na, .string sa, .slice ao la.length cap]] w fun e w' => e = .returned (.string (bytes ((VT.node 4 na sa la).txt F))) ∧ Below w.heap.size w w' := by
  obtain ⟨hf, hrs', hd⟩ := VT.right_parts hr
  have hrs := Lib.hid hrs'
  have hfp := fits_parts hf
  have hl8 : la.length ≤ 8 := hfp.2.2.1
  have HFL : Hid (Fl = true ∨ VT.noFls la = true) := hfl.imp id VT.noFl_kids
  have HX := Lib.hid (VT.txt_node F 4 na sa la)
  have HLEN : Hid ((topTxt F 4 na sa (Lib.join (VT.txts F la) [44]) la.length).length ≤ 1000000) := by rw [VT.txt_node] at hlen; exact hlen
  have HJ : Hid ((Lib.join (VT.txts F la) [44]).length ≤ 1000000) := by
    have := HLEN.out
    simp [topTxt] at this
    show _ ≤ _
    omega
  unfold maxLen at a2
  have HW := Lib.hid hw
  have HT : Hid (∀ W, Below w.heap.size w W → Tab W) := fun W hW => hT.below (hw.trans (hW.mono hw.size))

  clear hrs' hr hlen hw hT hfl hf
  go_enter Tryd.func17, Tryd.ntmps17
  go_wp2
  have HL : Hid (TxtLoop F (w.heap.size + 1) (w.alloc (.cells #[.int .i64 4, .int .i64 na, .string sa, .slice ao la.length cap] 24)) la la.length (.slice none 0 0) (.int .i64 0) (w.alloc (.cells #[.int .i64 4, .int .i64 na, .string sa, .slice ao la.length cap] 24))) := ⟨0, rfl, by omega, Row.nil _ _, fun b h => by simp [Value.ownBlock] at h, Below.refl _ _⟩
  go_loopg [3, 10] la.length (fun k s3 s10 wr => TxtLoop F (w.heap.size + 1) (w.alloc (.cells #[.int .i64 4, .int .i64 na, .string sa, .slice ao la.length cap] 24)) la k s3 s10 wr)
  case atStart => exact HL.out
  case round =>
    clear HL
    obtain ⟨i, rfl, hik, hrow, hob, hb⟩ := hrel
    have HB := Lib.hid hb
    have HR := Lib.hid hrow
    have HO := Lib.hid hob
    have hb0 : Below (w.alloc (.cells #[.int .i64 4, .int .i64 na, .string sa, .slice ao la.length cap] 24)).heap.size (w.alloc (.cells #[.int .i64 4, .int .i64 na, .string sa, .slice ao la.length cap] 24)) wr := by simpa using hb
    obtain ⟨c0, c1, c2, c3, hb6⟩ := cells_below hb0
    clear hb0
    have H6 := Lib.hid hb6
    have HS1 : Hid (w.heap.size + 1 ≤ wr.heap.size) := by have := HB.out.size; show _ ≤ _; simpa using this
    clear hb hrow hob hb6
    by_cases hlt : i < la.length
    · obtain ⟨tk, htk⟩ : ∃ u, la[i]? = some u := ⟨_, List.getElem?_eq_getElem hlt⟩
      obtain ⟨bb, oo, _, _, _, _, rfl, hbb, _⟩ := a7.get htk
      obtain ⟨_, aok, capk, p0, p1, p2, p3, hvk⟩ := a7.cells htk
      unfold vval at hvk
      rw [Nat.zero_add] at p0 p1 p2 p3
      have hbb' := hP _ hbb
      have cc : ∀ j, wr.cell? ⟨bb, j, none⟩ = w.cell? ⟨bb, j, none⟩ := fun j => H6.out.cell (p := ⟨bb, j, none⟩) hbb'
      replace p0 := (cc _).trans p0
      replace p1 := (cc _).trans p1
      replace p2 := (cc _).trans p2
      replace p3 := (cc _).trans p3
      have hvk' : Hid (ValIs wr P tk (.agg #[.int .i64 tk.kind, .int .i64 tk.num, .string tk.text, .slice aok tk.kids.length capk])) := hvk.below H6.out hP
      have hkid : Hid (tk.sz ≤ k) := by
        have h5 : tk.sz < (VT.node 4 na sa la).sz := VT.sz_kid (t := VT.node 4 na sa la) htk
        show tk.sz ≤ k; omega
      have hrk := Lib.hid (VT.rights_get hrs.out htk)
      have hflk : Hid (Fl = true ∨ tk.noFl = true) := HFL.out.imp id fun h => VT.noFls_get h htk
      have htl : Hid ((tk.txt F).length ≤ 1000000) := Nat.le_trans (join_le [44] (i := i) (by rw [VT.txts_map, List.getElem?_map, htk]; rfl)) HJ.out
      have hnext := Lib.hid (txts_next F htk)
      have hsl : Hid ((svals (VT.txts F (la.take i))).length = i) := by show _ = _; rw [svals_length, VT.txts_map, List.length_map, List.length_take]; omega
      have g1' : (i : Int) < (la.length : Int) := by omega
      have hi0 : (0 : Int) ≤ (i : Int) := by omega
      clear hvk htk cc
      go_wp2_with (first
        | ((go_at_call 17; refine (ih tk _ _ P (d + 1) hkid.out hrk.out hflk.out (hvk'.out.below ((Below.refl _ _).alloc (Nat.le_refl _) _) (fun b hb => Nat.lt_of_lt_of_le (hP b hb) H6.out.size)) (fun x hx => by have := hP x hx; have := H6.out.size; simp; omega) (HW.out.trans ((H6.out.trans (((Below.refl _ _).alloc (Nat.le_refl _) _).mono H6.out.size)).mono HW.out.size)) htl.out).mono ?_; rintro e w7 ⟨rfl, hb7⟩; have HB7 := Lib.hid hb7; have B7 : Hid (Below wr.heap.size wr w7) := ((Below.refl _ _).alloc (Nat.le_refl _) _).trans (hb7.mono (by simp)); clear hb7))
        | (at_builtin; (refine wpList_app _ rfl _ _ 56 rfl 9 (.string ⟨#[]⟩) 16 Tryd.underlying56 infoS rfl u3 (svals (VT.txts F (la.take i))) rfl (World.ownsRow.alloc (HR.out.chg (F := []) ⟨B7.out.os, B7.out.tape, B7.out.output, B7.out.size, fun i hi _ => B7.out.block i hi⟩ (fun _ _ => by simp)) _) ⟨w7.heap.size, 0, none⟩ 1 1 [.string (bytes (tk.txt F))] rfl (by omega) rfl (cell_one_new _ _ _) (by intro u hu; simp at hu; rw [hu]; rfl) (by have := hsl.out; omega) (by omega) ?_; intro g cap9 w9 hr9 hg9 hl9)))
      have hbe : Hid (Below (w.heap.size + 1) wr w9) := by
        have hc : Chg u3.ownBlock.toList w7 w9 := ((Chg.refl _ w7).alloc _).grown hg9 (fun k hk => .inl (by simp [hk]))
        exact (B7.out.mono HS1.out).trans (hc.below (Nat.le_trans HS1.out B7.out.size) (fun k hk => HO.out k (by simpa using hk)))
      go_roundg (gk - 1)
      case measure => omega
      case rel =>
        refine ⟨i + 1, by go_num, by omega, by rw [hnext.out]; exact hr9, ?_, HB.out.trans hbe.out⟩
        intro b hb
        simp only [Value.ownBlock, Option.some.injEq] at hb
        subst hb
        rcases hl9 with e | e
        · exact HO.out _ e
        · have := HS1.out; have := B7.out.size; simp at e; omega
    · obtain rfl : i = la.length := by omega
      have HR2 : Hid (Row wr 9 u3 (svals (VT.txts F la))) := by have := HR.out; rwa [List.take_length] at this
      have HJN := Lib.hid (join_row HR2.out HJ.out (by omega))
      have hlu : ∃ ao3 cap3, u3 = .slice ao3 la.length cap3 := by
        obtain ⟨ao3, cap3, h, _⟩ := HR2.out.form
        exact ⟨ao3, cap3, by rw [h, svals_length, VT.txts_map, List.length_map]⟩
      have HN1 : ∀ s : ByteArray, s.size ≤ 2000000 → ¬ 9223372036854775807 < s.size + 1 := fun s h => by omega
      have hj1 : ¬ 9223372036854775807 < 1 + (bytes (Lib.join (VT.txts F la) [44])).size := by rw [bytes_size]; have := HJ.out; omega
      have hj2 : ¬ 9223372036854775807 < 1 + (bytes (Lib.join (VT.txts F la) [44])).size + 1 := by rw [bytes_size]; have := HJ.out; omega
      generalize hjj : bytes (Lib.join (VT.txts F la) [44]) = jj at HJN hj1 hj2
      have HJJ := Lib.hid hjj
      clear hjj HN1
      obtain ⟨ao3, cap3, rfl⟩ := hlu
      go_wp2_with (first
        | (go_at_call 30; refine HJN.out.mono ?_; rintro e w5 ⟨rfl, hb5⟩; have H5 := Lib.hid (H6.out.trans (hb5.mono H6.out.size)); have HBJ : Hid (Below (w.alloc (.cells #[.int .i64 4, .int .i64 na, .string sa, .slice ao la.length cap] 24)).heap.size (w.alloc (.cells #[.int .i64 4, .int .i64 na, .string sa, .slice ao la.length cap] 24)) w5) := (by have := HB.out.trans (hb5.mono HS1.out); show Below _ _ _; simpa using this); obtain ⟨d0, d1, d2, d3, _⟩ := cells_below HBJ.out; clear hb5))
      all_goals
        go_ret
        refine ⟨ret_str ?_, H5.out⟩
        rw [HX.out]
        rw [← HJJ.out]
        apply Go.WideShapes.bytes_inj
        simp [bytes, topTxt]
include hT ih in
set_option maxRecDepth 100000 in
set_option maxHeartbeats 3200000 in
theorem text_5 (na : Int) (sa : ByteArray) (la : List VT) (w : World) (P : Nat → Prop) (d : Int) (ao : Option Addr) (cap : Nat) (hk : (VT.node 5 na sa la).sz ≤ k + 1) (hr : (VT.node 5 na sa la).right d = true) (hfl : Fl = true ∨ (VT.node 5 na sa la).noFl = true)
    (a1 : la.length ≤ cap) (a2 : cap ≤ maxLen) (a7 : KidsAt w P la ao 0) (hP : ∀ x, P x → x < w.heap.size) (hw : Below w0.heap.size w0 w) (hlen : ((VT.node 5 na sa la).txt F).length ≤ 1000000) :
    Calls Tryd.prog 17 #[.agg #[.int .i64 5, .int .i64 na, .string sa, .slice ao la.length cap]] w fun e w' => e = .returned (.string (bytes ((VT.node 5 na sa la).txt F))) ∧ Below w.heap.size w w' := by
  obtain ⟨hf, hrs', hd⟩ := VT.right_parts hr
  have hrs := Lib.hid hrs'
  have hfp := fits_parts hf
  have hl8 : la.length ≤ 8 := hfp.2.2.1
  have HFL : Hid (Fl = true ∨ VT.noFls la = true) := hfl.imp id VT.noFl_kids
  have HX := Lib.hid (VT.txt_node F 5 na sa la)
  have HLEN : Hid ((topTxt F 5 na sa (Lib.join (VT.txts F la) [44]) la.length).length ≤ 1000000) := by rw [VT.txt_node] at hlen; exact hlen
  have HJ : Hid ((Lib.join (VT.txts F la) [44]).length ≤ 1000000) := by
    have : la = [] := List.length_eq_zero_iff.1 (fits_none hf (by decide) (by decide))
    subst this
    show _ ≤ _
    simp [VT.txts, Lib.join_nil]
  unfold maxLen at a2
  have HW := Lib.hid hw
  have HT : Hid (∀ W, Below w.heap.size w W → Tab W) := fun W hW => hT.below (hw.trans (hW.mono hw.size))
  have hni : Hid ((Lib.itoa (wr na)).length ≤ 21) := Lib.itoa_length_le _ (by have := wr_ge na; omega) (by have := wr_le na; omega)
  have hn1 : ¬ 9223372036854775807 < 1 + (bytes (Lib.itoa (wr na))).size := by rw [bytes_size]; have := hni.out; omega

  clear hrs' hr hlen hw hT hfl hf
  go_enter Tryd.func17, Tryd.ntmps17
  go_wp2
  have HL : Hid (TxtLoop F (w.heap.size + 1) (w.alloc (.cells #[.int .i64 5, .int .i64 na, .string sa, .slice ao la.length cap] 24)) la la.length (.slice none 0 0) (.int .i64 0) (w.alloc (.cells #[.int .i64 5, .int .i64 na, .string sa, .slice ao la.length cap] 24))) := ⟨0, rfl, by omega, Row.nil _ _, fun b h => by simp [Value.ownBlock] at h, Below.refl _ _⟩
  go_loopg [3, 10] la.length (fun k s3 s10 wr => TxtLoop F (w.heap.size + 1) (w.alloc (.cells #[.int .i64 5, .int .i64 na, .string sa, .slice ao la.length cap] 24)) la k s3 s10 wr)
  case atStart => exact HL.out
  case round =>
    clear HL
    obtain ⟨i, rfl, hik, hrow, hob, hb⟩ := hrel
    have HB := Lib.hid hb
    have HR := Lib.hid hrow
    have HO := Lib.hid hob
    have hb0 : Below (w.alloc (.cells #[.int .i64 5, .int .i64 na, .string sa, .slice ao la.length cap] 24)).heap.size (w.alloc (.cells #[.int .i64 5, .int .i64 na, .string sa, .slice ao la.length cap] 24)) wr := by simpa using hb
    obtain ⟨c0, c1, c2, c3, hb6⟩ := cells_below hb0
    clear hb0
    have H6 := Lib.hid hb6
    have HS1 : Hid (w.heap.size + 1 ≤ wr.heap.size) := by have := HB.out.size; show _ ≤ _; simpa using this
    clear hb hrow hob hb6
    by_cases hlt : i < la.length
    · obtain ⟨tk, htk⟩ : ∃ u, la[i]? = some u := ⟨_, List.getElem?_eq_getElem hlt⟩
      obtain ⟨bb, oo, _, _, _, _, rfl, hbb, _⟩ := a7.get htk
      obtain ⟨_, aok, capk, p0, p1, p2, p3, hvk⟩ := a7.cells htk
      unfold vval at hvk
      rw [Nat.zero_add] at p0 p1 p2 p3
      have hbb' := hP _ hbb
      have cc : ∀ j, wr.cell? ⟨bb, j, none⟩ = w.cell? ⟨bb, j, none⟩ := fun j => H6.out.cell (p := ⟨bb, j, none⟩) hbb'
      replace p0 := (cc _).trans p0
      replace p1 := (cc _).trans p1
      replace p2 := (cc _).trans p2
      replace p3 := (cc _).trans p3
      have hvk' : Hid (ValIs wr P tk (.agg #[.int .i64 tk.kind, .int .i64 tk.num, .string tk.text, .slice aok tk.kids.length capk])) := hvk.below H6.out hP
      have hkid : Hid (tk.sz ≤ k) := by
        have h5 : tk.sz < (VT.node 5 na sa la).sz := VT.sz_kid (t := VT.node 5 na sa la) htk
        show tk.sz ≤ k; omega
      have hrk := Lib.hid (VT.rights_get hrs.out htk)
      have hflk : Hid (Fl = true ∨ tk.noFl = true) := HFL.out.imp id fun h => VT.noFls_get h htk
      have htl : Hid ((tk.txt F).length ≤ 1000000) := Nat.le_trans (join_le [44] (i := i) (by rw [VT.txts_map, List.getElem?_map, htk]; rfl)) HJ.out
      have hnext := Lib.hid (txts_next F htk)
      have hsl : Hid ((svals (VT.txts F (la.take i))).length = i) := by show _ = _; rw [svals_length, VT.txts_map, List.length_map, List.length_take]; omega
      have g1' : (i : Int) < (la.length : Int) := by omega
      have hi0 : (0 : Int) ≤ (i : Int) := by omega
      clear hvk htk cc
      go_wp2_with (first
        | ((go_at_call 17; refine (ih tk _ _ P (d + 1) hkid.out hrk.out hflk.out (hvk'.out.below ((Below.refl _ _).alloc (Nat.le_refl _) _) (fun b hb => Nat.lt_of_lt_of_le (hP b hb) H6.out.size)) (fun x hx => by have := hP x hx; have := H6.out.size; simp; omega) (HW.out.trans ((H6.out.trans (((Below.refl _ _).alloc (Nat.le_refl _) _).mono H6.out.size)).mono HW.out.size)) htl.out).mono ?_; rintro e w7 ⟨rfl, hb7⟩; have HB7 := Lib.hid hb7; have B7 : Hid (Below wr.heap.size wr w7) := ((Below.refl _ _).alloc (Nat.le_refl _) _).trans (hb7.mono (by simp)); clear hb7))
        | (at_builtin; (refine wpList_app _ rfl _ _ 56 rfl 9 (.string ⟨#[]⟩) 16 Tryd.underlying56 infoS rfl u3 (svals (VT.txts F (la.take i))) rfl (World.ownsRow.alloc (HR.out.chg (F := []) ⟨B7.out.os, B7.out.tape, B7.out.output, B7.out.size, fun i hi _ => B7.out.block i hi⟩ (fun _ _ => by simp)) _) ⟨w7.heap.size, 0, none⟩ 1 1 [.string (bytes (tk.txt F))] rfl (by omega) rfl (cell_one_new _ _ _) (by intro u hu; simp at hu; rw [hu]; rfl) (by have := hsl.out; omega) (by omega) ?_; intro g cap9 w9 hr9 hg9 hl9)))
      have hbe : Hid (Below (w.heap.size + 1) wr w9) := by
        have hc : Chg u3.ownBlock.toList w7 w9 := ((Chg.refl _ w7).alloc _).grown hg9 (fun k hk => .inl (by simp [hk]))
        exact (B7.out.mono HS1.out).trans (hc.below (Nat.le_trans HS1.out B7.out.size) (fun k hk => HO.out k (by simpa using hk)))
      go_roundg (gk - 1)
      case measure => omega
      case rel =>
        refine ⟨i + 1, by go_num, by omega, by rw [hnext.out]; exact hr9, ?_, HB.out.trans hbe.out⟩
        intro b hb
        simp only [Value.ownBlock, Option.some.injEq] at hb
        subst hb
        rcases hl9 with e | e
        · exact HO.out _ e
        · have := HS1.out; have := B7.out.size; simp at e; omega
    · obtain rfl : i = la.length := by omega
      have HR2 : Hid (Row wr 9 u3 (svals (VT.txts F la))) := by have := HR.out; rwa [List.take_length] at this
      have HJN := Lib.hid (join_row HR2.out HJ.out (by omega))
      have hlu : ∃ ao3 cap3, u3 = .slice ao3 la.length cap3 := by
        obtain ⟨ao3, cap3, h, _⟩ := HR2.out.form
        exact ⟨ao3, cap3, by rw [h, svals_length, VT.txts_map, List.length_map]⟩
      have HN1 : ∀ s : ByteArray, s.size ≤ 2000000 → ¬ 9223372036854775807 < s.size + 1 := fun s h => by omega
      have hj1 : ¬ 9223372036854775807 < 1 + (bytes (Lib.join (VT.txts F la) [44])).size := by rw [bytes_size]; have := HJ.out; omega
      have hj2 : ¬ 9223372036854775807 < 1 + (bytes (Lib.join (VT.txts F la) [44])).size + 1 := by rw [bytes_size]; have := HJ.out; omega
      generalize hjj : bytes (Lib.join (VT.txts F la) [44]) = jj at HJN hj1 hj2
      have HJJ := Lib.hid hjj
      clear hjj HN1
      obtain ⟨ao3, cap3, rfl⟩ := hlu
      go_wp2_with (first
        | (go_at_call 30; refine HJN.out.mono ?_; rintro e w5 ⟨rfl, hb5⟩; have H5 := Lib.hid (H6.out.trans (hb5.mono H6.out.size)); have HBJ : Hid (Below (w.alloc (.cells #[.int .i64 5, .int .i64 na, .string sa, .slice ao la.length cap] 24)).heap.size (w.alloc (.cells #[.int .i64 5, .int .i64 na, .string sa, .slice ao la.length cap] 24)) w5) := (by have := HB.out.trans (hb5.mono HS1.out); show Below _ _ _; simpa using this); obtain ⟨d0, d1, d2, d3, _⟩ := cells_below HBJ.out; clear hb5)
        | (go_at_call 31; refine (numText_any na _ (HT.out _ H5.out)).mono ?_; rintro e w7 ⟨rfl, hb7⟩; have H7 := Lib.hid (H5.out.trans (hb7.mono H5.out.size)); clear hb7))
      all_goals
        go_ret
        refine ⟨ret_str ?_, H7.out⟩
        rw [HX.out]
        apply Go.WideShapes.bytes_inj
        simp [bytes, topTxt]
include hT ih in
set_option maxRecDepth 100000 in
set_option maxHeartbeats 3200000 in
theorem text_6 (na : Int) (sa : ByteArray) (la : List VT) (w : World) (P : Nat → Prop) (d : Int) (ao : Option Addr) (cap : Nat) (hk : (VT.node 6 na sa la).sz ≤ k + 1) (hr : (VT.node 6 na sa la).right d = true) (hfl : Fl = true ∨ (VT.node 6 na sa la).noFl = true)
    (a1 : la.length ≤ cap) (a2 : cap ≤ maxLen) (a7 : KidsAt w P la ao 0) (hP : ∀ x, P x → x < w.heap.size) (hw : Below w0.heap.size w0 w) (hlen : ((VT.node 6 na sa la).txt F).length ≤ 1000000) :
    Calls Tryd.prog 17 #[.agg #[.int .i64 6, .int .i64 na, .string sa, .slice ao la.length cap]] w fun e w' => e = .returned (.string (bytes ((VT.node 6 na sa la).txt F))) ∧ Below w.heap.size w w' := by
  obtain ⟨hf, hrs', hd⟩ := VT.right_parts hr
  have hrs := Lib.hid hrs'
  have hfp := fits_parts hf
  have hl8 : la.length ≤ 8 := hfp.2.2.1
  have HFL : Hid (Fl = true ∨ VT.noFls la = true) := hfl.imp id VT.noFl_kids
  have HX := Lib.hid (VT.txt_node F 6 na sa la)
  have HLEN : Hid ((topTxt F 6 na sa (Lib.join (VT.txts F la) [44]) la.length).length ≤ 1000000) := by rw [VT.txt_node] at hlen; exact hlen
  have HJ : Hid ((Lib.join (VT.txts F la) [44]).length ≤ 1000000) := by
    have : la = [] := List.length_eq_zero_iff.1 (fits_none hf (by decide) (by decide))
    subst this
    show _ ≤ _
    simp [VT.txts, Lib.join_nil]
  unfold maxLen at a2
  have HW := Lib.hid hw
  have HT : Hid (∀ W, Below w.heap.size w W → Tab W) := fun W hW => hT.below (hw.trans (hW.mono hw.size))

  clear hrs' hr hlen hw hT hfl hf
  go_enter Tryd.func17, Tryd.ntmps17
  go_wp2
  have HL : Hid (TxtLoop F (w.heap.size + 1) (w.alloc (.cells #[.int .i64 6, .int .i64 na, .string sa, .slice ao la.length cap] 24)) la la.length (.slice none 0 0) (.int .i64 0) (w.alloc (.cells #[.int .i64 6, .int .i64 na, .string sa, .slice ao la.length cap] 24))) := ⟨0, rfl, by omega, Row.nil _ _, fun b h => by simp [Value.ownBlock] at h, Below.refl _ _⟩
  go_loopg [3, 10] la.length (fun k s3 s10 wr => TxtLoop F (w.heap.size + 1) (w.alloc (.cells #[.int .i64 6, .int .i64 na, .string sa, .slice ao la.length cap] 24)) la k s3 s10 wr)
  case atStart => exact HL.out
  case round =>
    clear HL
    obtain ⟨i, rfl, hik, hrow, hob, hb⟩ := hrel
    have HB := Lib.hid hb
    have HR := Lib.hid hrow
    have HO := Lib.hid hob
    have hb0 : Below (w.alloc (.cells #[.int .i64 6, .int .i64 na, .string sa, .slice ao la.length cap] 24)).heap.size (w.alloc (.cells #[.int .i64 6, .int .i64 na, .string sa, .slice ao la.length cap] 24)) wr := by simpa using hb
    obtain ⟨c0, c1, c2, c3, hb6⟩ := cells_below hb0
    clear hb0
    have H6 := Lib.hid hb6
    have HS1 : Hid (w.heap.size + 1 ≤ wr.heap.size) := by have := HB.out.size; show _ ≤ _; simpa using this
    clear hb hrow hob hb6
    by_cases hlt : i < la.length
    · obtain ⟨tk, htk⟩ : ∃ u, la[i]? = some u := ⟨_, List.getElem?_eq_getElem hlt⟩
      obtain ⟨bb, oo, _, _, _, _, rfl, hbb, _⟩ := a7.get htk
      obtain ⟨_, aok, capk, p0, p1, p2, p3, hvk⟩ := a7.cells htk
      unfold vval at hvk
      rw [Nat.zero_add] at p0 p1 p2 p3
      have hbb' := hP _ hbb
      have cc : ∀ j, wr.cell? ⟨bb, j, none⟩ = w.cell? ⟨bb, j, none⟩ := fun j => H6.out.cell (p := ⟨bb, j, none⟩) hbb'
      replace p0 := (cc _).trans p0
      replace p1 := (cc _).trans p1
      replace p2 := (cc _).trans p2
      replace p3 := (cc _).trans p3
      have hvk' : Hid (ValIs wr P tk (.agg #[.int .i64 tk.kind, .int .i64 tk.num, .string tk.text, .slice aok tk.kids.length capk])) := hvk.below H6.out hP
      have hkid : Hid (tk.sz ≤ k) := by
        have h5 : tk.sz < (VT.node 6 na sa la).sz := VT.sz_kid (t := VT.node 6 na sa la) htk
        show tk.sz ≤ k; omega
      have hrk := Lib.hid (VT.rights_get hrs.out htk)
      have hflk : Hid (Fl = true ∨ tk.noFl = true) := HFL.out.imp id fun h => VT.noFls_get h htk
      have htl : Hid ((tk.txt F).length ≤ 1000000) := Nat.le_trans (join_le [44] (i := i) (by rw [VT.txts_map, List.getElem?_map, htk]; rfl)) HJ.out
      have hnext := Lib.hid (txts_next F htk)
      have hsl : Hid ((svals (VT.txts F (la.take i))).length = i) := by show _ = _; rw [svals_length, VT.txts_map, List.length_map, List.length_take]; omega
      have g1' : (i : Int) < (la.length : Int) := by omega
      have hi0 : (0 : Int) ≤ (i : Int) := by omega
      clear hvk htk cc
      go_wp2_with (first
        | ((go_at_call 17; refine (ih tk _ _ P (d + 1) hkid.out hrk.out hflk.out (hvk'.out.below ((Below.refl _ _).alloc (Nat.le_refl _) _) (fun b hb => Nat.lt_of_lt_of_le (hP b hb) H6.out.size)) (fun x hx => by have := hP x hx; have := H6.out.size; simp; omega) (HW.out.trans ((H6.out.trans (((Below.refl _ _).alloc (Nat.le_refl _) _).mono H6.out.size)).mono HW.out.size)) htl.out).mono ?_; rintro e w7 ⟨rfl, hb7⟩; have HB7 := Lib.hid hb7; have B7 : Hid (Below wr.heap.size wr w7) := ((Below.refl _ _).alloc (Nat.le_refl _) _).trans (hb7.mono (by simp)); clear hb7))
        | (at_builtin; (refine wpList_app _ rfl _ _ 56 rfl 9 (.string ⟨#[]⟩) 16 Tryd.underlying56 infoS rfl u3 (svals (VT.txts F (la.take i))) rfl (World.ownsRow.alloc (HR.out.chg (F := []) ⟨B7.out.os, B7.out.tape, B7.out.output, B7.out.size, fun i hi _ => B7.out.block i hi⟩ (fun _ _ => by simp)) _) ⟨w7.heap.size, 0, none⟩ 1 1 [.string (bytes (tk.txt F))] rfl (by omega) rfl (cell_one_new _ _ _) (by intro u hu; simp at hu; rw [hu]; rfl) (by have := hsl.out; omega) (by omega) ?_; intro g cap9 w9 hr9 hg9 hl9)))
      have hbe : Hid (Below (w.heap.size + 1) wr w9) := by
        have hc : Chg u3.ownBlock.toList w7 w9 := ((Chg.refl _ w7).alloc _).grown hg9 (fun k hk => .inl (by simp [hk]))
        exact (B7.out.mono HS1.out).trans (hc.below (Nat.le_trans HS1.out B7.out.size) (fun k hk => HO.out k (by simpa using hk)))
      go_roundg (gk - 1)
      case measure => omega
      case rel =>
        refine ⟨i + 1, by go_num, by omega, by rw [hnext.out]; exact hr9, ?_, HB.out.trans hbe.out⟩
        intro b hb
        simp only [Value.ownBlock, Option.some.injEq] at hb
        subst hb
        rcases hl9 with e | e
        · exact HO.out _ e
        · have := HS1.out; have := B7.out.size; simp at e; omega
    · obtain rfl : i = la.length := by omega
      have HR2 : Hid (Row wr 9 u3 (svals (VT.txts F la))) := by have := HR.out; rwa [List.take_length] at this
      have HJN := Lib.hid (join_row HR2.out HJ.out (by omega))
      have hlu : ∃ ao3 cap3, u3 = .slice ao3 la.length cap3 := by
        obtain ⟨ao3, cap3, h, _⟩ := HR2.out.form
        exact ⟨ao3, cap3, by rw [h, svals_length, VT.txts_map, List.length_map]⟩
      have HN1 : ∀ s : ByteArray, s.size ≤ 2000000 → ¬ 9223372036854775807 < s.size + 1 := fun s h => by omega
      have hj1 : ¬ 9223372036854775807 < 1 + (bytes (Lib.join (VT.txts F la) [44])).size := by rw [bytes_size]; have := HJ.out; omega
      have hj2 : ¬ 9223372036854775807 < 1 + (bytes (Lib.join (VT.txts F la) [44])).size + 1 := by rw [bytes_size]; have := HJ.out; omega
      generalize hjj : bytes (Lib.join (VT.txts F la) [44]) = jj at HJN hj1 hj2
      have HJJ := Lib.hid hjj
      clear hjj HN1
      obtain ⟨ao3, cap3, rfl⟩ := hlu
      go_wp2_with (first
        | (go_at_call 30; refine HJN.out.mono ?_; rintro e w5 ⟨rfl, hb5⟩; have H5 := Lib.hid (H6.out.trans (hb5.mono H6.out.size)); have HBJ : Hid (Below (w.alloc (.cells #[.int .i64 6, .int .i64 na, .string sa, .slice ao la.length cap] 24)).heap.size (w.alloc (.cells #[.int .i64 6, .int .i64 na, .string sa, .slice ao la.length cap] 24)) w5) := (by have := HB.out.trans (hb5.mono HS1.out); show Below _ _ _; simpa using this); obtain ⟨d0, d1, d2, d3, _⟩ := cells_below HBJ.out; clear hb5))
      all_goals
        go_ret
        refine ⟨ret_str ?_, H5.out⟩
        rw [HX.out]
        rfl
include hT hF ih in
set_option maxRecDepth 100000 in
set_option maxHeartbeats 3200000 in
theorem text_1 (na : Int) (sa : ByteArray) (la : List VT) (w : World) (P : Nat → Prop) (d : Int) (ao : Option Addr) (cap : Nat) (hk : (VT.node 1 na sa la).sz ≤ k + 1) (hr : (VT.node 1 na sa la).right d = true) (hfl : Fl = true ∨ (VT.node 1 na sa la).noFl = true)
    (a1 : la.length ≤ cap) (a2 : cap ≤ maxLen) (a7 : KidsAt w P la ao 0) (hP : ∀ x, P x → x < w.heap.size) (hw : Below w0.heap.size w0 w) (hlen : ((VT.node 1 na sa la).txt F).length ≤ 1000000) :
    Calls Tryd.prog 17 #[.agg #[.int .i64 1, .int .i64 na, .string sa, .slice ao la.length cap]] w fun e w' => e = .returned (.string (bytes ((VT.node 1 na sa la).txt F))) ∧ Below w.heap.size w w' := by
  obtain ⟨hf, hrs', hd⟩ := VT.right_parts hr
  have hrs := Lib.hid hrs'
  have hfp := fits_parts hf
  have hl8 : la.length ≤ 8 := hfp.2.2.1
  have HFL : Hid (Fl = true ∨ VT.noFls la = true) := hfl.imp id VT.noFl_kids
  have HX := Lib.hid (VT.txt_node F 1 na sa la)
  have HLEN : Hid ((topTxt F 1 na sa (Lib.join (VT.txts F la) [44]) la.length).length ≤ 1000000) := by rw [VT.txt_node] at hlen; exact hlen
  have HJ : Hid ((Lib.join (VT.txts F la) [44]).length ≤ 1000000) := by
    have : la = [] := List.length_eq_zero_iff.1 (fits_none hf (by decide) (by decide))
    subst this
    show _ ≤ _
    simp [VT.txts, Lib.join_nil]
  unfold maxLen at a2
  have HW := Lib.hid hw
  have HT : Hid (∀ W, Below w.heap.size w W → Tab W) := fun W hW => hT.below (hw.trans (hW.mono hw.size))
  have HSA : Hid (sa.size ≤ maxLen) := by show _ ≤ _; unfold maxLen; omega
  have HFB : Hid (∀ W, Below w0.heap.size w0 W → Calls Tryd.prog 33 #[.int .u64 (bitsOf sa.data.toList)] W fun e w' => e = .returned (.string (bytes (F (bitsOf sa.data.toList)))) ∧ Below W.heap.size W w') := fun W hW => hF (by rcases hfl with h | h; exact h; simp [VT.noFl] at h) _ W (bitsOf_lt _) hW

  clear hrs' hr hlen hw hT hfl hf
  go_enter Tryd.func17, Tryd.ntmps17
  go_wp2
  have HL : Hid (TxtLoop F (w.heap.size + 1) (w.alloc (.cells #[.int .i64 1, .int .i64 na, .string sa, .slice ao la.length cap] 24)) la la.length (.slice none 0 0) (.int .i64 0) (w.alloc (.cells #[.int .i64 1, .int .i64 na, .string sa, .slice ao la.length cap] 24))) := ⟨0, rfl, by omega, Row.nil _ _, fun b h => by simp [Value.ownBlock] at h, Below.refl _ _⟩
  go_loopg [3, 10] la.length (fun k s3 s10 wr => TxtLoop F (w.heap.size + 1) (w.alloc (.cells #[.int .i64 1, .int .i64 na, .string sa, .slice ao la.length cap] 24)) la k s3 s10 wr)
  case atStart => exact HL.out
  case round =>
    clear HL
    obtain ⟨i, rfl, hik, hrow, hob, hb⟩ := hrel
    have HB := Lib.hid hb
    have HR := Lib.hid hrow
    have HO := Lib.hid hob
    have hb0 : Below (w.alloc (.cells #[.int .i64 1, .int .i64 na, .string sa, .slice ao la.length cap] 24)).heap.size (w.alloc (.cells #[.int .i64 1, .int .i64 na, .string sa, .slice ao la.length cap] 24)) wr := by simpa using hb
    obtain ⟨c0, c1, c2, c3, hb6⟩ := cells_below hb0
    clear hb0
    have H6 := Lib.hid hb6
    have HS1 : Hid (w.heap.size + 1 ≤ wr.heap.size) := by have := HB.out.size; show _ ≤ _; simpa using this
    clear hb hrow hob hb6
    by_cases hlt : i < la.length
    · obtain ⟨tk, htk⟩ : ∃ u, la[i]? = some u := ⟨_, List.getElem?_eq_getElem hlt⟩
      obtain ⟨bb, oo, _, _, _, _, rfl, hbb, _⟩ := a7.get htk
      obtain ⟨_, aok, capk, p0, p1, p2, p3, hvk⟩ := a7.cells htk
      unfold vval at hvk
      rw [Nat.zero_add] at p0 p1 p2 p3
      have hbb' := hP _ hbb
      have cc : ∀ j, wr.cell? ⟨bb, j, none⟩ = w.cell? ⟨bb, j, none⟩ := fun j => H6.out.cell (p := ⟨bb, j, none⟩) hbb'
      replace p0 := (cc _).trans p0
      replace p1 := (cc _).trans p1
      replace p2 := (cc _).trans p2
      replace p3 := (cc _).trans p3
      have hvk' : Hid (ValIs wr P tk (.agg #[.int .i64 tk.kind, .int .i64 tk.num, .string tk.text, .slice aok tk.kids.length capk])) := hvk.below H6.out hP
      have hkid : Hid (tk.sz ≤ k) := by
        have h5 : tk.sz < (VT.node 1 na sa la).sz := VT.sz_kid (t := VT.node 1 na sa la) htk
        show tk.sz ≤ k; omega
      have hrk := Lib.hid (VT.rights_get hrs.out htk)
      have hflk : Hid (Fl = true ∨ tk.noFl = true) := HFL.out.imp id fun h => VT.noFls_get h htk
      have htl : Hid ((tk.txt F).length ≤ 1000000) := Nat.le_trans (join_le [44] (i := i) (by rw [VT.txts_map, List.getElem?_map, htk]; rfl)) HJ.out
      have hnext := Lib.hid (txts_next F htk)
      have hsl : Hid ((svals (VT.txts F (la.take i))).length = i) := by show _ = _; rw [svals_length, VT.txts_map, List.length_map, List.length_take]; omega
      have g1' : (i : Int) < (la.length : Int) := by omega
      have hi0 : (0 : Int) ≤ (i : Int) := by omega
      clear hvk htk cc
      go_wp2_with (first
        | ((go_at_call 17; refine (ih tk _ _ P (d + 1) hkid.out hrk.out hflk.out (hvk'.out.below ((Below.refl _ _).alloc (Nat.le_refl _) _) (fun b hb => Nat.lt_of_lt_of_le (hP b hb) H6.out.size)) (fun x hx => by have := hP x hx; have := H6.out.size; simp; omega) (HW.out.trans ((H6.out.trans (((Below.refl _ _).alloc (Nat.le_refl _) _).mono H6.out.size)).mono HW.out.size)) htl.out).mono ?_; rintro e w7 ⟨rfl, hb7⟩; have HB7 := Lib.hid hb7; have B7 : Hid (Below wr.heap.size wr w7) := ((Below.refl _ _).alloc (Nat.le_refl _) _).trans (hb7.mono (by simp)); clear hb7))
        | (at_builtin; (refine wpList_app _ rfl _ _ 56 rfl 9 (.string ⟨#[]⟩) 16 Tryd.underlying56 infoS rfl u3 (svals (VT.txts F (la.take i))) rfl (World.ownsRow.alloc (HR.out.chg (F := []) ⟨B7.out.os, B7.out.tape, B7.out.output, B7.out.size, fun i hi _ => B7.out.block i hi⟩ (fun _ _ => by simp)) _) ⟨w7.heap.size, 0, none⟩ 1 1 [.string (bytes (tk.txt F))] rfl (by omega) rfl (cell_one_new _ _ _) (by intro u hu; simp at hu; rw [hu]; rfl) (by have := hsl.out; omega) (by omega) ?_; intro g cap9 w9 hr9 hg9 hl9)))
      have hbe : Hid (Below (w.heap.size + 1) wr w9) := by
        have hc : Chg u3.ownBlock.toList w7 w9 := ((Chg.refl _ w7).alloc _).grown hg9 (fun k hk => .inl (by simp [hk]))
        exact (B7.out.mono HS1.out).trans (hc.below (Nat.le_trans HS1.out B7.out.size) (fun k hk => HO.out k (by simpa using hk)))
      go_roundg (gk - 1)
      case measure => omega
      case rel =>
        refine ⟨i + 1, by go_num, by omega, by rw [hnext.out]; exact hr9, ?_, HB.out.trans hbe.out⟩
        intro b hb
        simp only [Value.ownBlock, Option.some.injEq] at hb
        subst hb
        rcases hl9 with e | e
        · exact HO.out _ e
        · have := HS1.out; have := B7.out.size; simp at e; omega
    · obtain rfl : i = la.length := by omega
      have HR2 : Hid (Row wr 9 u3 (svals (VT.txts F la))) := by have := HR.out; rwa [List.take_length] at this
      have HJN := Lib.hid (join_row HR2.out HJ.out (by omega))
      have hlu : ∃ ao3 cap3, u3 = .slice ao3 la.length cap3 := by
        obtain ⟨ao3, cap3, h, _⟩ := HR2.out.form
        exact ⟨ao3, cap3, by rw [h, svals_length, VT.txts_map, List.length_map]⟩
      have HN1 : ∀ s : ByteArray, s.size ≤ 2000000 → ¬ 9223372036854775807 < s.size + 1 := fun s h => by omega
      have hj1 : ¬ 9223372036854775807 < 1 + (bytes (Lib.join (VT.txts F la) [44])).size := by rw [bytes_size]; have := HJ.out; omega
      have hj2 : ¬ 9223372036854775807 < 1 + (bytes (Lib.join (VT.txts F la) [44])).size + 1 := by rw [bytes_size]; have := HJ.out; omega
      generalize hjj : bytes (Lib.join (VT.txts F la) [44]) = jj at HJN hj1 hj2
      have HJJ := Lib.hid hjj
      clear hjj HN1
      obtain ⟨ao3, cap3, rfl⟩ := hlu
      go_wp2_with (first
        | (go_at_call 30; refine HJN.out.mono ?_; rintro e w5 ⟨rfl, hb5⟩; have H5 := Lib.hid (H6.out.trans (hb5.mono H6.out.size)); have HBJ : Hid (Below (w.alloc (.cells #[.int .i64 1, .int .i64 na, .string sa, .slice ao la.length cap] 24)).heap.size (w.alloc (.cells #[.int .i64 1, .int .i64 na, .string sa, .slice ao la.length cap] 24)) w5) := (by have := HB.out.trans (hb5.mono HS1.out); show Below _ _ _; simpa using this); obtain ⟨d0, d1, d2, d3, _⟩ := cells_below HBJ.out; clear hb5)
        | (go_at_call 32; refine (float_any sa _ HSA.out).mono ?_; rintro e w' ⟨rfl, rfl⟩)
        | (go_at_call 33; refine (HFB.out _ (HW.out.trans (H5.out.mono HW.out.size))).mono ?_; rintro e w7 ⟨rfl, hb7⟩; have H7 := Lib.hid (H5.out.trans (hb7.mono H5.out.size)); clear hb7))
      all_goals
        go_ret
        refine ⟨ret_str ?_, H7.out⟩
        rw [HX.out]
        rfl
include hT ih in
set_option maxRecDepth 100000 in
set_option maxHeartbeats 3200000 in
theorem text_3 (na : Int) (sa : ByteArray) (la : List VT) (w : World) (P : Nat → Prop) (d : Int) (ao : Option Addr) (cap : Nat) (hk : (VT.node 3 na sa la).sz ≤ k + 1) (hr : (VT.node 3 na sa la).right d = true) (hfl : Fl = true ∨ (VT.node 3 na sa la).noFl = true)
    (a1 : la.length ≤ cap) (a2 : cap ≤ maxLen) (a7 : KidsAt w P la ao 0) (hP : ∀ x, P x → x < w.heap.size) (hw : Below w0.heap.size w0 w) (hlen : ((VT.node 3 na sa la).txt F).length ≤ 1000000) :
    Calls Tryd.prog 17 #[.agg #[.int .i64 3, .int .i64 na, .string sa, .slice ao la.length cap]] w fun e w' => e = .returned (.string (bytes ((VT.node 3 na sa la).txt F))) ∧ Below w.heap.size w w' := by
  obtain ⟨hf, hrs', hd⟩ := VT.right_parts hr
  have hrs := Lib.hid hrs'
  have hfp := fits_parts hf
  have hl8 : la.length ≤ 8 := hfp.2.2.1
  have HFL : Hid (Fl = true ∨ VT.noFls la = true) := hfl.imp id VT.noFl_kids
  have HX := Lib.hid (VT.txt_node F 3 na sa la)
  have HLEN : Hid ((topTxt F 3 na sa (Lib.join (VT.txts F la) [44]) la.length).length ≤ 1000000) := by rw [VT.txt_node] at hlen; exact hlen
  have HJ : Hid ((Lib.join (VT.txts F la) [44]).length ≤ 1000000) := by
    have := HLEN.out
    simp [topTxt] at this
    show _ ≤ _
    split at this
    · rename_i h0
      rw [h0]; simp [VT.txts, Lib.join_nil]
    · simp at this; omega
  unfold maxLen at a2
  have HW := Lib.hid hw
  have HT : Hid (∀ W, Below w.heap.size w W → Tab W) := fun W hW => hT.below (hw.trans (hW.mono hw.size))
  have hni : Hid ((Lib.itoa (wr na)).length ≤ 21) := Lib.itoa_length_le _ (by have := wr_ge na; omega) (by have := wr_le na; omega)
  have hn1 : ¬ 9223372036854775807 < 1 + (bytes (Lib.itoa (wr na))).size := by rw [bytes_size]; have := hni.out; omega
  have hn3 : ∀ j : ByteArray, j.size ≤ 1000000 → ¬ 9223372036854775807 < 1 + (bytes (Lib.itoa (wr na))).size + (1 + j.size + 1) := by intro j hj; rw [bytes_size]; have := hni.out; omega

  clear hrs' hr hlen hw hT hfl hf
  go_enter Tryd.func17, Tryd.ntmps17
  go_wp2
  have HL : Hid (TxtLoop F (w.heap.size + 1) (w.alloc (.cells #[.int .i64 3, .int .i64 na, .string sa, .slice ao la.length cap] 24)) la la.length (.slice none 0 0) (.int .i64 0) (w.alloc (.cells #[.int .i64 3, .int .i64 na, .string sa, .slice ao la.length cap] 24))) := ⟨0, rfl, by omega, Row.nil _ _, fun b h => by simp [Value.ownBlock] at h, Below.refl _ _⟩
  go_loopg [3, 10] la.length (fun k s3 s10 wr => TxtLoop F (w.heap.size + 1) (w.alloc (.cells #[.int .i64 3, .int .i64 na, .string sa, .slice ao la.length cap] 24)) la k s3 s10 wr)
  case atStart => exact HL.out
  case round =>
    clear HL
    obtain ⟨i, rfl, hik, hrow, hob, hb⟩ := hrel
    have HB := Lib.hid hb
    have HR := Lib.hid hrow
    have HO := Lib.hid hob
    have hb0 : Below (w.alloc (.cells #[.int .i64 3, .int .i64 na, .string sa, .slice ao la.length cap] 24)).heap.size (w.alloc (.cells #[.int .i64 3, .int .i64 na, .string sa, .slice ao la.length cap] 24)) wr := by simpa using hb
    obtain ⟨c0, c1, c2, c3, hb6⟩ := cells_below hb0
    clear hb0
    have H6 := Lib.hid hb6
    have HS1 : Hid (w.heap.size + 1 ≤ wr.heap.size) := by have := HB.out.size; show _ ≤ _; simpa using this
    clear hb hrow hob hb6
    by_cases hlt : i < la.length
    · obtain ⟨tk, htk⟩ : ∃ u, la[i]? = some u := ⟨_, List.getElem?_eq_getElem hlt⟩
      obtain ⟨bb, oo, _, _, _, _, rfl, hbb, _⟩ := a7.get htk
      obtain ⟨_, aok, capk, p0, p1, p2, p3, hvk⟩ := a7.cells htk
      unfold vval at hvk
      rw [Nat.zero_add] at p0 p1 p2 p3
      have hbb' := hP _ hbb
      have cc : ∀ j, wr.cell? ⟨bb, j, none⟩ = w.cell? ⟨bb, j, none⟩ := fun j => H6.out.cell (p := ⟨bb, j, none⟩) hbb'
      replace p0 := (cc _).trans p0
      replace p1 := (cc _).trans p1
      replace p2 := (cc _).trans p2
      replace p3 := (cc _).trans p3
      have hvk' : Hid (ValIs wr P tk (.agg #[.int .i64 tk.kind, .int .i64 tk.num, .string tk.text, .slice aok tk.kids.length capk])) := hvk.below H6.out hP
      have hkid : Hid (tk.sz ≤ k) := by
        have h5 : tk.sz < (VT.node 3 na sa la).sz := VT.sz_kid (t := VT.node 3 na sa la) htk
        show tk.sz ≤ k; omega
      have hrk := Lib.hid (VT.rights_get hrs.out htk)
      have hflk : Hid (Fl = true ∨ tk.noFl = true) := HFL.out.imp id fun h => VT.noFls_get h htk
      have htl : Hid ((tk.txt F).length ≤ 1000000) := Nat.le_trans (join_le [44] (i := i) (by rw [VT.txts_map, List.getElem?_map, htk]; rfl)) HJ.out
      have hnext := Lib.hid (txts_next F htk)
      have hsl : Hid ((svals (VT.txts F (la.take i))).length = i) := by show _ = _; rw [svals_length, VT.txts_map, List.length_map, List.length_take]; omega
      have g1' : (i : Int) < (la.length : Int) := by omega
      have hi0 : (0 : Int) ≤ (i : Int) := by omega
      clear hvk htk cc
      go_wp2_with (first
        | ((go_at_call 17; refine (ih tk _ _ P (d + 1) hkid.out hrk.out hflk.out (hvk'.out.below ((Below.refl _ _).alloc (Nat.le_refl _) _) (fun b hb => Nat.lt_of_lt_of_le (hP b hb) H6.out.size)) (fun x hx => by have := hP x hx; have := H6.out.size; simp; omega) (HW.out.trans ((H6.out.trans (((Below.refl _ _).alloc (Nat.le_refl _) _).mono H6.out.size)).mono HW.out.size)) htl.out).mono ?_; rintro e w7 ⟨rfl, hb7⟩; have HB7 := Lib.hid hb7; have B7 : Hid (Below wr.heap.size wr w7) := ((Below.refl _ _).alloc (Nat.le_refl _) _).trans (hb7.mono (by simp)); clear hb7))
        | (at_builtin; (refine wpList_app _ rfl _ _ 56 rfl 9 (.string ⟨#[]⟩) 16 Tryd.underlying56 infoS rfl u3 (svals (VT.txts F (la.take i))) rfl (World.ownsRow.alloc (HR.out.chg (F := []) ⟨B7.out.os, B7.out.tape, B7.out.output, B7.out.size, fun i hi _ => B7.out.block i hi⟩ (fun _ _ => by simp)) _) ⟨w7.heap.size, 0, none⟩ 1 1 [.string (bytes (tk.txt F))] rfl (by omega) rfl (cell_one_new _ _ _) (by intro u hu; simp at hu; rw [hu]; rfl) (by have := hsl.out; omega) (by omega) ?_; intro g cap9 w9 hr9 hg9 hl9)))
      have hbe : Hid (Below (w.heap.size + 1) wr w9) := by
        have hc : Chg u3.ownBlock.toList w7 w9 := ((Chg.refl _ w7).alloc _).grown hg9 (fun k hk => .inl (by simp [hk]))
        exact (B7.out.mono HS1.out).trans (hc.below (Nat.le_trans HS1.out B7.out.size) (fun k hk => HO.out k (by simpa using hk)))
      go_roundg (gk - 1)
      case measure => omega
      case rel =>
        refine ⟨i + 1, by go_num, by omega, by rw [hnext.out]; exact hr9, ?_, HB.out.trans hbe.out⟩
        intro b hb
        simp only [Value.ownBlock, Option.some.injEq] at hb
        subst hb
        rcases hl9 with e | e
        · exact HO.out _ e
        · have := HS1.out; have := B7.out.size; simp at e; omega
    · obtain rfl : i = la.length := by omega
      have HR2 : Hid (Row wr 9 u3 (svals (VT.txts F la))) := by have := HR.out; rwa [List.take_length] at this
      have HJN := Lib.hid (join_row HR2.out HJ.out (by omega))
      have hlu : ∃ ao3 cap3, u3 = .slice ao3 la.length cap3 := by
        obtain ⟨ao3, cap3, h, _⟩ := HR2.out.form
        exact ⟨ao3, cap3, by rw [h, svals_length, VT.txts_map, List.length_map]⟩
      have HN1 : ∀ s : ByteArray, s.size ≤ 2000000 → ¬ 9223372036854775807 < s.size + 1 := fun s h => by omega
      have hj1 : ¬ 9223372036854775807 < 1 + (bytes (Lib.join (VT.txts F la) [44])).size := by rw [bytes_size]; have := HJ.out; omega
      have hj2 : ¬ 9223372036854775807 < 1 + (bytes (Lib.join (VT.txts F la) [44])).size + 1 := by rw [bytes_size]; have := HJ.out; omega
      generalize hjj : bytes (Lib.join (VT.txts F la) [44]) = jj at HJN hj1 hj2
      have HJJ := Lib.hid hjj
      clear hjj HN1
      obtain ⟨ao3, cap3, rfl⟩ := hlu
      have hj3 := hn3 jj (by rw [← HJJ.out, bytes_size]; exact HJ.out)
      go_wp2_with (first
        | (go_at_call 30; refine HJN.out.mono ?_; rintro e w5 ⟨rfl, hb5⟩; have H5 := Lib.hid (H6.out.trans (hb5.mono H6.out.size)); have HBJ : Hid (Below (w.alloc (.cells #[.int .i64 3, .int .i64 na, .string sa, .slice ao la.length cap] 24)).heap.size (w.alloc (.cells #[.int .i64 3, .int .i64 na, .string sa, .slice ao la.length cap] 24)) w5) := (by have := HB.out.trans (hb5.mono HS1.out); show Below _ _ _; simpa using this); obtain ⟨d0, d1, d2, d3, _⟩ := cells_below HBJ.out; clear hb5)
        | (go_at_call 31; refine (numText_any na _ (HT.out _ H5.out)).mono ?_; rintro e w7 ⟨rfl, hb7⟩; have H7 := Lib.hid (H5.out.trans (hb7.mono H5.out.size)); clear hb7))
      all_goals
        go_ret
        refine ⟨ret_str ?_, H7.out⟩
        rw [HX.out]
        try rw [← HJJ.out]
        apply Go.WideShapes.bytes_inj
        simp [bytes, topTxt]
        first
          | (have h0 : ((la.length : Int) == 0) = true := (by assumption); simpa using h0)
          | (have h0 : ((la.length : Int) == 0) = false := (by assumption); simpa using h0)
          | (have h0 : ¬ ((la.length : Int) == 0) = true := (by assumption); simpa using h0)
end
theorem text_walk (F : Nat → List UInt8) (Fl : Bool) (w0 : World) (hT : Tab w0) (hF : Fl = true → ∀ (x : Nat) (w : World), x < 18446744073709551616 → Below w0.heap.size w0 w → Calls Tryd.prog 33 #[.int .u64 x] w fun e w' => e = .returned (.string (bytes (F x))) ∧ Below w.heap.size w w') :
    ∀ (k : Nat) (t : VT) (vt : Value) (w : World) (P : Nat → Prop) (d : Int), t.sz ≤ k → t.right d = true → (Fl = true ∨ t.noFl = true) → ValIs w P t vt → (∀ x, P x → x < w.heap.size) → Below w0.heap.size w0 w → (t.txt F).length ≤ 1000000 →
    Calls Tryd.prog 17 #[vt] w fun e w' => e = .returned (.string (bytes (t.txt F))) ∧ Below w.heap.size w w' := by
  intro k
  induction k with
  | zero => intro t _ _ _ _ h; cases t; simp [VT.sz] at h
  | succ k ih =>
    intro t vt w P d hk hr hfl hv hP hw hlen
    obtain ⟨k0, na, sa, la⟩ := t
    unfold ValIs at hv
    obtain ⟨ao, cap, rfl, a1, a2, a3, a4, a5, a6, a7⟩ := hv
    obtain ⟨h0, h6, _⟩ := fits_parts (VT.right_parts hr).1
    have h : k0 = 0 ∨ k0 = 1 ∨ k0 = 2 ∨ k0 = 3 ∨ k0 = 4 ∨ k0 = 5 ∨ k0 = 6 := by omega
    rcases h with rfl | rfl | rfl | rfl | rfl | rfl | rfl
    · exact text_0 F Fl w0 hT k ih na sa la w P d ao cap hk hr hfl a1 a2 a7 hP hw hlen
    · exact text_1 F Fl w0 hT hF k ih na sa la w P d ao cap hk hr hfl a1 a2 a7 hP hw hlen
    · exact text_2 F Fl w0 hT k ih na sa la w P d ao cap hk hr hfl a1 a2 a7 hP hw hlen
    · exact text_3 F Fl w0 hT k ih na sa la w P d ao cap hk hr hfl a1 a2 a7 hP hw hlen
    · exact text_4 F Fl w0 hT k ih na sa la w P d ao cap hk hr hfl a1 a2 a7 hP hw hlen
    · exact text_5 F Fl w0 hT k ih na sa la w P d ao cap hk hr hfl a1 a2 a7 hP hw hlen
    · exact text_6 F Fl w0 hT k ih na sa la w P d ao cap hk hr hfl a1 a2 a7 hP hw hlen
end Go.Proofs.YtofmbpmmgpbdbaaDoor
