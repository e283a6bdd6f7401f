/- Texts of the proof, in build order: Txt4. -/
import Derived.Test.YtenikoecnfbfoaaGreatDoorB20
/- The reference's Text. -/
namespace Go.Proofs.YtenikoecnfbfoaaGreatDoor
open Go.RowKit Go.Maps Go.Sort Wr
set_option linter.unusedVariables false

theorem tail_snoc (sep x : List UInt8) : ∀ r : List (List UInt8), Lib.joinTail sep (r ++ [x]) = Lib.joinTail sep r ++ (sep ++ x)
  | [] => by simp [Lib.joinTail]
  | y :: r => by simp [Lib.joinTail]
theorem join_snoc (sep x : List UInt8) {xs : List (List UInt8)} (h : xs ≠ []) : Lib.join (xs ++ [x]) sep = Lib.join xs sep ++ (sep ++ x) := by
  cases xs with
  | nil => exact absurd rfl h
  | cons y r => rw [List.cons_append, Lib.join_cons, Lib.join_cons, tail_snoc, List.append_assoc]
theorem tail_take (sep : List UInt8) : ∀ (r : List (List UInt8)) (i : Nat), (Lib.joinTail sep (r.take i)).length ≤ (Lib.joinTail sep r).length
  | [], i => by simp
  | y :: r, 0 => by simp [Lib.joinTail]
  | y :: r, i + 1 => by
    have := tail_take sep r i
    have e : ∀ q : List (List UInt8), Lib.joinTail sep (y :: q) = (sep ++ y) ++ Lib.joinTail sep q := fun q => by simp [Lib.joinTail]
    rw [List.take_succ_cons, e, e]
    simp only [List.length_append]
    omega
theorem join_take (sep : List UInt8) (xs : List (List UInt8)) (i : Nat) : (Lib.join (xs.take i) sep).length ≤ (Lib.join xs sep).length := by
  cases xs with
  | nil => simp
  | cons y r =>
    cases i with
    | zero => simp [Lib.join_nil]
    | succ i =>
      have := tail_take sep r i
      rw [List.take_succ_cons, Lib.join_cons, Lib.join_cons, List.length_append, List.length_append]
      omega
/-- The texts of the first i, joined. -/
def jn (la : List VT) (i : Nat) : List UInt8 := Lib.join (VT.txts flHex (la.take i)) [44]
theorem jn_zero (la : List VT) : jn la 0 = [] := by simp [jn, VT.txts, Lib.join_nil]
theorem jn_all (la : List VT) : jn la la.length = Lib.join (VT.txts flHex la) [44] := by rw [jn, List.take_length]
theorem jn_le (la : List VT) (i : Nat) : (jn la i).length ≤ (Lib.join (VT.txts flHex la) [44]).length := by
  have := join_take [44] (VT.txts flHex la) i
  rwa [VT.txts_map, ← List.map_take, ← VT.txts_map, ← VT.txts_map] at this
theorem jn_one {la : List VT} {t : VT} (h : la[0]? = some t) : jn la 1 = t.txt flHex := by
  cases la with
  | nil => cases h
  | cons u l => rw [List.getElem?_cons_zero] at h; cases h; simp [jn, VT.txts, Lib.join_one]
theorem jn_next {la : List VT} {i : Nat} {t : VT} (hi : 0 < i) (h : la[i]? = some t) : jn la (i + 1) = jn la i ++ ([44] ++ t.txt flHex) := by
  have hl := (List.getElem?_eq_some_iff.1 h).1
  rw [jn, List.take_add_one, h, VT.txts_map, List.map_append, ← VT.txts_map]
  exact join_snoc [44] (t.txt flHex) (by rw [VT.txts_map]; intro e; have := congrArg List.length e; simp only [List.length_map, List.length_take, List.length_nil] at this; omega)
def RxLoop (W : World) (la : List VT) (gk : Nat) (s3 s4 : Value) (wr : World) : Prop :=
  ∃ i : Nat, s4 = .int .i64 i ∧ i + gk = la.length ∧ s3 = .string (bytes (jn la i)) ∧ Below W.heap.size W wr
set_option maxRecDepth 100000 in
set_option maxHeartbeats 1600000 in
theorem refTxt_walk (k : Nat) : ∀ (t : VT) (vt : Value) (w : World) (P : Nat → Prop) (d : Int), t.sz ≤ k → t.right d = true → ValIs w P t vt → (∀ x, P x → x < w.heap.size) → (t.txt flHex).length ≤ 1000000 →
    Calls Tryz.prog 39 #[vt] w fun e w' => e = .returned (.string (bytes (t.txt flHex))) ∧ Below w.heap.size w w' := by
  induction k with
  | zero => intro t _ _ _ _ h; cases t; simp [VT.sz] at h
  | succ k ih =>
    intro t vt w P d hk hr hv hP hlen
    obtain ⟨ka, na, sa, la⟩ := t
    unfold ValIs at hv
    obtain ⟨ao, cap, rfl, a1, a2, a3, a4, a5, a6, a7⟩ := hv
    obtain ⟨hf, hrs', hd⟩ := VT.right_parts hr
    obtain ⟨k0, k6, hl8, hsa, hrest⟩ := fits_parts hf
    have HF := Lib.hid hf
    have HRS := Lib.hid hrs'
    have HX := Lib.hid (VT.txt_node flHex ka na sa la)
    have HLEN : Hid ((topTxt flHex ka na sa (Lib.join (VT.txts flHex la) [44]) la.length).length ≤ 1000000) := by rw [VT.txt_node] at hlen; exact hlen
    have HJ : Hid (la.length = 0 ∨ (Lib.join (VT.txts flHex la) [44]).length ≤ 1000000) := by
      show _ ∨ _
      by_cases h0 : la.length = 0
      · exact .inl h0
      · right
        have h34 : ka = 3 ∨ ka = 4 := by
          by_cases h3 : ka = 3
          · exact .inl h3
          · by_cases h4 : ka = 4
            · exact .inr h4
            · exact absurd (fits_none hf h3 h4) h0
        have := HLEN.out
        rcases h34 with rfl | rfl
        · simp [topTxt, h0] at this; omega
        · simp [topTxt] at this; omega
    have HJI : Hid (∀ i, (jn la i).length ≤ 1000000) := fun i => by
      rcases HJ.out with h | h
      · have : la = [] := List.length_eq_zero_iff.1 h
        subst this
        simp [jn, VT.txts, Lib.join_nil]
      · exact Nat.le_trans (jn_le la i) h
    have HPP := Lib.hid hP
    have HA7 := Lib.hid a7
    unfold maxLen at a2
    clear hlen hr hd hrs' hf hP a7 hrest
    go_enter Tryz.func39, Tryz.ntmps39
    go_wp2
    obtain ⟨W1, hW1⟩ : ∃ W1, W1 = w.alloc (.cells #[.int .i64 ka, .int .i64 na, .string sa, .slice ao la.length cap] 47) := ⟨_, rfl⟩
    have HW1 := Lib.hid hW1
    rw [← hW1]
    clear hW1
    have HL : Hid (RxLoop W1 la la.length (.string ⟨#[]⟩) (.int .i64 0) W1) := ⟨0, rfl, by omega, by rw [jn_zero]; rfl, Below.refl _ _⟩
    go_loopg [3, 4] la.length (fun gk s3 s4 wr => RxLoop W1 la gk s3 s4 wr)
    case atStart => exact HL.out
    case round =>
      clear HL
      obtain ⟨i, rfl, hik, rfl, hb⟩ := hrel
      rw [HW1.out] at hb
      obtain ⟨c0, c1, c2, c3, hbr⟩ := cells_below hb
      have HB := Lib.hid (hb.mono (Nat.le_refl _))
      have HBR := Lib.hid hbr
      clear hb hbr
      have g0 : (0 : Int) ≤ (i : Int) := by omega
      obtain ⟨q, hq⟩ : ∃ q, jn la i = q := ⟨_, rfl⟩
      have hql : q.length ≤ 1000000 := by rw [← hq]; exact HJI.out i
      have HQ := Lib.hid hq
      rw [hq]
      have HQL := Lib.hid hql
      clear hq hql
      by_cases hlt : i < la.length
      · have g1 : (i : Int) < (la.length : Int) := by omega
        obtain ⟨tk, htk⟩ : ∃ u, la[i]? = some u := ⟨_, List.getElem?_eq_getElem hlt⟩
        obtain ⟨bb, oo, x0, x1, x2, x3, rfl, hbb, p0, p1, p2, p3, hvk⟩ := HA7.out.get htk
        rw [Nat.zero_add] at p0 p1 p2 p3
        have hbb' := HPP.out _ hbb
        replace p0 := (HBR.out.cell (p := ⟨bb, oo + i * 4, none⟩) hbb').trans p0
        replace p1 := (HBR.out.cell (p := ⟨bb, oo + i * 4 + 1, none⟩) hbb').trans p1
        replace p2 := (HBR.out.cell (p := ⟨bb, oo + i * 4 + 2, none⟩) hbb').trans p2
        replace p3 := (HBR.out.cell (p := ⟨bb, oo + i * 4 + 3, none⟩) hbb').trans p3
        have hsk : tk.sz ≤ k := by
          have h5 : tk.sz < (VT.node ka na sa la).sz := VT.sz_kid (t := VT.node ka na sa la) htk
          omega
        have htl : (tk.txt flHex).length ≤ 1000000 := by
          rcases HJ.out with h | h
          · omega
          · exact Nat.le_trans (join_le [44] (i := i) (by rw [VT.txts_map, List.getElem?_map, htk]; rfl)) h
        have HI := Lib.hid (ih tk _ wr P (d + 1) hsk (VT.rights_get HRS.out htk) (hvk.below HBR.out HPP.out) (fun b hb => Nat.lt_of_lt_of_le (HPP.out b hb) HBR.out.size) htl)
        have HTL := Lib.hid htl
        have HJN := Lib.hid (fun hi : 0 < i => jn_next hi htk)
        have HJ1 : Hid (i = 0 → jn la (i + 1) = tk.txt flHex) := fun h => by subst h; exact jn_one htk
        have HJ0 := Lib.hid (fun h : i = 0 => (by subst h; rw [← HQ.out, jn_zero] : q = []))
        have hs1 : ¬ 9223372036854775807 < (bytes q).size + 1 := by rw [bytes_size]; have := HQL.out; omega
        have hs2 : ¬ 9223372036854775807 < (bytes q).size + 1 + (bytes (tk.txt flHex)).size := by rw [bytes_size, bytes_size]; have := HQL.out; have := HTL.out; omega
        have hs3 : ¬ 9223372036854775807 < (bytes q).size + (bytes (tk.txt flHex)).size := by rw [bytes_size, bytes_size]; have := HQL.out; have := HTL.out; omega
        clear hvk htk htl hsk
        by_cases hi : 0 < i
        · have hi1 : (0 : Int) < (i : Int) := by omega
          go_wp2_with (go_at_call 39; refine HI.out.mono ?_; rintro e w5 ⟨rfl, hb5⟩; have B5 := Lib.hid (HB.out.trans (hb5.mono HB.out.size)); clear hb5)
          go_roundg (gk - 1)
          case measure => omega
          case rel => exact ⟨i + 1, by go_num, by omega, by rw [HJN.out hi, HQ.out, ← bytes_append, ← bytes_append]; exact congrArg Value.string (ByteArray.append_assoc (a := bytes q) (b := bytes [44]) (c := bytes (tk.txt flHex))), by rw [HW1.out]; exact B5.out⟩
        · obtain rfl : i = 0 := by omega
          rw [Nat.zero_mul, Nat.add_zero] at p0 p1 p2 p3
          go_wp2_with (go_at_call 39; refine HI.out.mono ?_; rintro e w5 ⟨rfl, hb5⟩; have B5 := Lib.hid (HB.out.trans (hb5.mono HB.out.size)); clear hb5)
          go_roundg (gk - 1)
          case measure => omega
          case rel => exact ⟨1, by go_num, by omega, by rw [HJ1.out (by trivial), HJ0.out (by trivial), bytes_append]; rfl, by rw [HW1.out]; exact B5.out⟩
      · obtain rfl : i = la.length := by omega
        have HQA := Lib.hid (HQ.out.symm.trans (jn_all la))
        rcases (show ka = 0 ∨ ka = 1 ∨ ka = 2 ∨ ka = 3 ∨ ka = 4 ∨ ka = 5 ∨ ka = 6 by omega) with rfl | rfl | rfl | rfl | rfl | rfl | rfl
        · go_wp2_with (go_at_call 38; refine (refText_any na wr).mono ?_; rintro e w5 ⟨rfl, hb5⟩; have B5 := Lib.hid (HBR.out.trans (hb5.mono HBR.out.size)); clear hb5)
          go_ret
          refine ⟨?_, B5.out⟩
          rw [HX.out]
          rfl
        · have hbl := Lib.hid (bitsOf_lt sa.data.toList)
          have HA3 := Lib.hid a3
          go_wp2_with (first
            | (go_at_call 62; refine (refBits_any sa wr HA3.out).mono ?_; rintro e w' ⟨rfl, rfl⟩)
            | (go_at_call 61; refine (refHex_any _ hbl.out wr).mono ?_; rintro e w5 ⟨rfl, hb5⟩; have B5 := Lib.hid (HBR.out.trans (hb5.mono HBR.out.size)); clear hb5))
          go_ret
          refine ⟨?_, B5.out⟩
          rw [HX.out, ← flHex_pad _ hbl.out]
          rfl
        · go_wp2_with (go_at_call 63; refine (refQuote_any sa wr (by omega)).mono ?_; rintro e w5 ⟨rfl, hb5⟩; have B5 := Lib.hid (HBR.out.trans (hb5.mono HBR.out.size)); clear hb5)
          go_ret
          refine ⟨?_, B5.out⟩
          rw [HX.out]
          rfl
        · have hni : Hid ((Lib.itoa (Go.Proofs.YtenikoecnfbfoaaGreatDoor.wr na)).length ≤ 21) := Lib.itoa_length_le _ (by have := wr_ge na; omega) (by have := wr_le na; omega)
          have hs1 : ¬ 9223372036854775807 < 1 + (bytes (Lib.itoa (Go.Proofs.YtenikoecnfbfoaaGreatDoor.wr na))).size := by rw [bytes_size]; have := hni.out; omega
          have hs2 : ¬ 9223372036854775807 < 1 + (bytes (Lib.itoa (Go.Proofs.YtenikoecnfbfoaaGreatDoor.wr na))).size + 1 := by rw [bytes_size]; have := hni.out; omega
          have hs3 : ¬ 9223372036854775807 < 1 + (bytes (Lib.itoa (Go.Proofs.YtenikoecnfbfoaaGreatDoor.wr na))).size + 1 + (bytes q).size := by rw [bytes_size, bytes_size]; have := hni.out; have := HQL.out; omega
          have hs4 : ¬ 9223372036854775807 < 1 + (bytes (Lib.itoa (Go.Proofs.YtenikoecnfbfoaaGreatDoor.wr na))).size + 1 + (bytes q).size + 1 := by rw [bytes_size, bytes_size]; have := hni.out; have := HQL.out; omega
          by_cases hz : la.length = 0
          · have hz1 : ((la.length : Int) == 0) = true := by simp [hz]
            go_wp2_with (go_at_call 38; refine (refText_any na wr).mono ?_; rintro e w5 ⟨rfl, hb5⟩; have HBJ : Hid (Below W1.heap.size W1 w5) := (by rw [HW1.out]; exact HB.out.trans (hb5.mono HB.out.size)); have hbj := HBJ.out; rw [HW1.out] at hbj; obtain ⟨d0, d1, d2, d3, _⟩ := cells_below hbj; have B5 := Lib.hid (HBR.out.trans (hb5.mono HBR.out.size)); clear hb5 hbj)
            go_ret
            refine ⟨?_, B5.out⟩
            rw [HX.out]
            show Ending.returned (Value.string (⟨#[67]⟩ ++ bytes (Lib.itoa (Go.Proofs.YtenikoecnfbfoaaGreatDoor.wr na)))) = _
            rw [show (⟨#[67]⟩ : ByteArray) = bytes [67] from rfl, bytes_append]
            simp [topTxt, hz]
          · have hz1 : ((la.length : Int) == 0) = false := by simp only [beq_eq_false_iff_ne]; omega
            go_wp2_with (go_at_call 38; refine (refText_any na wr).mono ?_; rintro e w5 ⟨rfl, hb5⟩; have HBJ : Hid (Below W1.heap.size W1 w5) := (by rw [HW1.out]; exact HB.out.trans (hb5.mono HB.out.size)); have hbj := HBJ.out; rw [HW1.out] at hbj; obtain ⟨d0, d1, d2, d3, _⟩ := cells_below hbj; have B5 := Lib.hid (HBR.out.trans (hb5.mono HBR.out.size)); clear hb5 hbj)
            go_ret
            refine ⟨?_, B5.out⟩
            rw [HX.out, ← HQA.out]
            show Ending.returned (Value.string (⟨#[67]⟩ ++ bytes (Lib.itoa (Go.Proofs.YtenikoecnfbfoaaGreatDoor.wr na)) ++ ⟨#[40]⟩ ++ bytes q ++ ⟨#[41]⟩)) = _
            rw [show (⟨#[67]⟩ : ByteArray) = bytes [67] from rfl, show (⟨#[40]⟩ : ByteArray) = bytes [40] from rfl, show (⟨#[41]⟩ : ByteArray) = bytes [41] from rfl, bytes_append, bytes_append, bytes_append, bytes_append]
            simp [topTxt, hz]
        · have hs1 : ¬ 9223372036854775807 < 1 + (bytes q).size := by rw [bytes_size]; have := HQL.out; omega
          have hs2 : ¬ 9223372036854775807 < 1 + (bytes q).size + 1 := by rw [bytes_size]; have := HQL.out; omega
          go_wp2
          go_ret
          refine ⟨?_, HBR.out⟩
          rw [HX.out, ← HQA.out]
          show Ending.returned (Value.string (⟨#[40]⟩ ++ bytes q ++ ⟨#[41]⟩)) = _
          rw [show (⟨#[40]⟩ : ByteArray) = bytes [40] from rfl, show (⟨#[41]⟩ : ByteArray) = bytes [41] from rfl, bytes_append, bytes_append]
          simp [topTxt]
        · have hni : Hid ((Lib.itoa (Go.Proofs.YtenikoecnfbfoaaGreatDoor.wr na)).length ≤ 21) := Lib.itoa_length_le _ (by have := wr_ge na; omega) (by have := wr_le na; omega)
          have hs1 : ¬ 9223372036854775807 < 1 + (bytes (Lib.itoa (Go.Proofs.YtenikoecnfbfoaaGreatDoor.wr na))).size := by rw [bytes_size]; have := hni.out; omega
          go_wp2_with (go_at_call 38; refine (refText_any na wr).mono ?_; rintro e w5 ⟨rfl, hb5⟩; have HBJ : Hid (Below W1.heap.size W1 w5) := (by rw [HW1.out]; exact HB.out.trans (hb5.mono HB.out.size)); have hbj := HBJ.out; rw [HW1.out] at hbj; obtain ⟨d0, d1, d2, d3, _⟩ := cells_below hbj; have B5 := Lib.hid (HBR.out.trans (hb5.mono HBR.out.size)); clear hb5 hbj)
          go_ret
          refine ⟨?_, B5.out⟩
          rw [HX.out]
          exact congrArg (fun x => Ending.returned (Value.string x)) (bytes_append [64] _)
        · go_wp2
          go_ret
          refine ⟨?_, HBR.out⟩
          rw [HX.out]
          rfl
end Go.Proofs.YtenikoecnfbfoaaGreatDoor
