/- Texts of the proof, in build order: GrSorted, GrTop, GrTo. -/
import Derived.Test.YtenikoecnfbfoaaGreatDoorB31
import Derived.Test.YtenikoecnfbfoaaGreatDoorB28
import Derived.Test.YtenikoecnfbfoaaGreatDoorB27
import Derived.Test.YtenikoecnfbfoaaGreatDoorB26
/- Layer 8: the program's sorted: the document's. -/
namespace Go.Proofs.YtenikoecnfbfoaaGreatDoor
open Go.RowKit
set_option linter.unusedVariables false
set_option linter.unusedSimpArgs false
open Gr (RT sortO)

theorem infoRt : (Tryz.prog.info? 82).map (fun i => (i.zero, i.size, i.bytes)) = some (some (.agg #[.string ⟨#[]⟩, .string ⟨#[]⟩, .int .i64 0]), 3, 40) := by kernel_rfl
theorem cloneR_any (w : World) (v : Value) (l : List RT) (h : RtAt w v l) (hl : l.length ≤ 1000000) :
    Calls Tryz.prog 46 #[v] w fun e w' => ∃ v', e = .returned v' ∧ RtRow 82 w' w.heap.size v' l ∧ Below w.heap.size w w' := by
  obtain ⟨ao, cap, rfl, h1, h2, h3, h4, h5⟩ := h
  cases ao with
  | none =>
    have hc := h3 rfl
    have hn : l = [] := List.length_eq_zero_iff.1 (by omega)
    subst hn
    have hcon := AnyE.slices_Clone_nil Tryz.cloneF 0 cap w
    change Calls Tryz.prog 46 _ _ _ at hcon
    refine hcon.mono ?_
    rintro e w' ⟨rfl, rfl⟩
    exact ⟨_, rfl, RtRow.nil _ _ _, Below.refl _ _⟩
  | some a =>
    obtain ⟨b, off, s⟩ := a
    obtain ⟨rfl, hb⟩ := h4 b off s rfl
    obtain ⟨i0, hi, hz0, hz1, hz2⟩ := info_parts infoRt
    have hcon := AnyE.slices_Clone Tryz.cloneF i0 _ 3 40 hi hz0 hz1 hz2 rfl (by omega) Tryz.sizeOf82 b off l.length cap (rtcells l) w (rtcells_length l) (by unfold maxLen; omega) (by omega) (fun j u hj => by
      obtain ⟨b', off', e1, e2⟩ := h5 j u hj
      cases e1
      exact e2) (rtcells_one l)
    change Calls Tryz.prog 46 _ _ _ at hcon
    refine hcon.mono ?_
    rintro e w' ⟨v', rfl, hr, _, hb'⟩
    refine ⟨v', rfl, ⟨⟨hr.1, ?_⟩, fun k hk => (World.ownsRow.lt hr k hk).1⟩, hb'⟩
    rcases hr.2 with hn | ⟨g, cp, cur, e1, e2, rest⟩
    · exact .inl hn
    · exact .inr ⟨g, cp, cur, e1, Nat.zero_le _, rest⟩
/-- What is asked of roots that stand behind a name. -/
def fr2 : Option (List UInt8) → List RT → Bool
  | _, [] => true
  | p, r :: l => r.ok && decide (p ≠ some r.name) && fr2 (some r.name) l
theorem fresh_fr2 : ∀ l : List RT, Gr.fresh l = fr2 none l
  | [] => rfl
  | [r] => by simp [Gr.fresh, fr2]
  | r :: x :: l => by
    have ih := fresh_fr2 (x :: l)
    rw [Gr.fresh, ih, fr2, fr2, fr2]
    cases r.ok <;> cases hx : x.ok <;> simp [hx]
    by_cases h : x.name = r.name
    · simp [h]
    · simp [h, Ne.symm h]
def prevN (d : List RT) (i : Nat) : Option (List UInt8) := if i = 0 then none else (d[i - 1]?).map RT.name
theorem fr2_drop {d : List RT} {i : Nat} {r : RT} (h : d[i]? = some r) : fr2 (prevN d i) (d.drop i) = (r.ok && decide (prevN d i ≠ some r.name) && fr2 (prevN d (i + 1)) (d.drop (i + 1))) := by
  have hi := (List.getElem?_eq_some_iff.1 h).1
  have e : prevN d (i + 1) = some r.name := by
    unfold prevN
    rw [if_neg (by omega), Nat.add_sub_cancel, h]
    rfl
  rw [List.drop_eq_getElem_cons hi, (List.getElem?_eq_some_iff.1 h).2, fr2, e]
theorem ok_iff (r : RT) : r.ok = true ↔ r.name ≠ [] ∧ r.name.length ≤ 40 ∧ r.typ.length ≤ 1000 ∧ 1 ≤ r.id ∧ r.id ≤ 1099511627776 := by
  unfold RT.ok
  simp only [Bool.and_eq_true, Bool.not_eq_true', decide_eq_true_eq, List.isEmpty_eq_false_iff, and_assoc]
def SrtLoop (w2 : World) (d : List RT) (gk : Nat) (s12 : Value) (wr : World) : Prop :=
  ∃ i : Nat, i + gk = d.length ∧ s12 = .int .i64 (i : Int) ∧ Gr.fresh d = fr2 (prevN d i) (d.drop i) ∧ Below w2.heap.size w2 wr
theorem bytes_empty (l : List UInt8) : (bytes l).toList.isEmpty = l.isEmpty := by rw [ByteArray.toList_eq]; simp [bytes]
set_option maxRecDepth 100000 in
set_option maxHeartbeats 80000000 in
theorem sorted_any (w : World) (v : Value) (l : List RT) (h : RtAt w v l) (hl : l.length ≤ 1000000) (hsz : ∀ r ∈ l, r.name.length ≤ 1000000 ∧ r.typ.length ≤ 1000000) :
    Calls Tryz.prog 26 #[v] w (SrtEnd w l) := by
  have HCL := Lib.hid (cloneR_any w v l h hl)
  have HL := Lib.hid hl
  have HSZ := Lib.hid hsz
  clear h hl hsz
  go_enter Tryz.func26, Tryz.ntmps26
  go_wp2_with (first
    | (go_at_call 46; (with_reducible refine HCL.out.mono ?_); rintro e w1 ⟨v1, rfl, hr, hb⟩; obtain ⟨ao, cap, hv1, _⟩ := hr.at_; subst hv1; have HR1 := Lib.hid hr; have HB1 := Lib.hid hb; clear hr hb HCL; dsimp only)
    | (go_at_call 47; (with_reducible refine (sortF_any _ _ _ _ HR1.out HL.out).mono ?_); rintro e w2 ⟨rfl, d, hp, hs, hr, hc⟩; have HP := Lib.hid hp; have HS := Lib.hid hs; have HR2 := Lib.hid hr; have HB2 := Lib.hid (HB1.out.trans (hc.below HB1.out.size (fun k hk => HR1.out.2 k (by simpa using hk)))); clear hp hs hr hc HR1 HB1; dsimp only))
  have hdl : d.length = l.length := HP.out.length_eq
  have hdl2 : (l.length : Int) ≤ 1000000 := by have := HL.out; omega
  obtain ⟨ao2, cap2, hv1, _, _, _, hbk, hcl⟩ := HR2.out.at_
  simp only [Value.slice.injEq] at hv1
  obtain ⟨rfl, -, rfl⟩ := hv1
  have HCC : Hid (∀ (j : Nat) r, d[j]? = some r → ∃ b off, ao = some ⟨b, off, none⟩ ∧ b < w2.heap.size ∧ w2.cell? ⟨b, off + j * 3, none⟩ = some (.string (bytes r.name)) ∧ w2.cell? ⟨b, off + j * 3 + 1, none⟩ = some (.string (bytes r.typ)) ∧ w2.cell? ⟨b, off + j * 3 + 2, none⟩ = some (.int .i64 r.id)) := fun j r hj => by
    obtain ⟨g1, g2, g3⟩ := rtcells_get hj
    obtain ⟨b, off, e1, e2⟩ := hcl _ _ g1
    obtain ⟨b2, off2, e3, e4⟩ := hcl _ _ g2
    obtain ⟨b3, off3, e5, e6⟩ := hcl _ _ g3
    rw [e1] at e3 e5
    cases e3
    cases e5
    exact ⟨b, off, e1, (hbk b off none e1).2, e2, e4, e6⟩
  have HD : Hid (∀ r ∈ d, r.name.length ≤ 1000000 ∧ r.typ.length ≤ 1000000) := fun r hr => HSZ.out r (HP.out.mem_iff.1 hr)
  clear hbk hcl HSZ HL
  have HDL := Lib.hid hdl
  go_loopg [12] d.length (fun gk s12 wr => SrtLoop w2 d gk s12 wr)
  case atStart => exact ⟨0, by omega, rfl, by rw [fresh_fr2]; rfl, Below.refl _ _⟩
  case round =>
    obtain ⟨i, hi, rfl, hf, hb⟩ := hrel
    have HI := Lib.hid hi
    have HF := Lib.hid hf
    have HB := Lib.hid hb
    by_cases hlt : i < d.length
    · obtain ⟨r, hr⟩ : ∃ r, d[i]? = some r := ⟨_, List.getElem?_eq_getElem hlt⟩
      have hfd := fr2_drop hr
      rw [← hf] at hfd
      have HFD := Lib.hid hfd
      obtain ⟨b, off, rfl, hbl, c0, c1, c2⟩ := HCC.out i r hr
      have z0 := (hb.cell (p := ⟨b, off + i * 3, none⟩) hbl).trans c0
      have z1 := (hb.cell (p := ⟨b, off + i * 3 + 1, none⟩) hbl).trans c1
      have z2 := (hb.cell (p := ⟨b, off + i * 3 + 2, none⟩) hbl).trans c2
      have i0 : (0 : Int) ≤ (i : Int) := by omega
      have i1 : (i : Int) < (l.length : Int) := by omega
      have HLT := Lib.hid hlt
      have hok := ok_iff r
      have HOK := Lib.hid hok
      obtain ⟨hn1, hn2⟩ := HD.out r (List.mem_of_getElem? hr)
      have s1 : ((bytes r.name).size : Int) = (r.name.length : Int) := by rw [bytes_size]
      have s2 : ((bytes r.typ).size : Int) = (r.typ.length : Int) := by rw [bytes_size]
      have se := bytes_empty r.name
      clear hok c0 c1 c2 hi hf hfd s1 s2
      go_wp2
      have hBl := heap_alloc_new wr (.cells #[.string (bytes r.name), .string (bytes r.typ), .int .i64 r.id] 82)
      have hB1 := HB.out.alloc HB.out.size (.cells #[.string (bytes r.name), .string (bytes r.typ), .int .i64 r.id] 82)
      generalize wr.alloc (.cells #[.string (bytes r.name), .string (bytes r.typ), .int .i64 r.id] 82) = W1 at hBl hB1 ⊢
      have y0 : W1.cell? ⟨wr.heap.size, 0, none⟩ = some (.string (bytes r.name)) := by simp [World.cell?, hBl]
      have y1 : W1.cell? ⟨wr.heap.size, 1, none⟩ = some (.string (bytes r.typ)) := by simp [World.cell?, hBl]
      have y2 : W1.cell? ⟨wr.heap.size, 2, none⟩ = some (.int .i64 r.id) := by simp [World.cell?, hBl]
      generalize wr.heap.size = Br at *
      have HBW := Lib.hid hB1
      clear hBl hB1 z0 z1 z2
      by_cases h1 : r.name = []
      · have e1 : (bytes r.name).toList.isEmpty = true := by rw [se, h1]; rfl
        clear se
        have hfr : Gr.fresh d = false := by rw [HFD.out]; rw [show r.ok = false from Bool.eq_false_iff.2 (fun h => (HOK.out.1 h).1 h1)]; rfl
        have HSO : Hid (sortO l [] = none) := by show _ = _; rw [Gr.fresh_sortO HP.out HS.out, hfr]; rfl
        have HB3 := Lib.hid (HB2.out.trans (HBW.out.mono HB2.out.size))
        clear hfr h1
        refine use_regG (c' := sreg6) (by kernel_rfl) ?_
        refine s6_1 (x := ⟨#[]⟩) y0 y1 y2 e1 ?_
        intro _ _ _ _ _ _ _ _ _ _ _ _ _ _ _ _ _ _ _ _ _ _ _ _ _ _ _ _ _ _ _ _ _ _ _ _ _ _ _ B hB
        subst hB
        go_wp2
        go_ret2
        refine ⟨.slice none 0 0, ?_, fun s hs => ?_, fun hn => ?_, HB3.out.drew⟩
        · rw [HSO.out]; rfl
        · rw [HSO.out] at hs; cases hs
        · rfl
      · have e1 : (bytes r.name).toList.isEmpty = false := by rw [se]; simpa using h1
        clear se
        by_cases h2 : (40 : Int) < (r.name.length : Int)
        · have d2 : (40 : Int) < ((bytes r.name).size : Int) := by rw [bytes_size]; exact h2
          have hfr : Gr.fresh d = false := by rw [HFD.out]; rw [show r.ok = false from Bool.eq_false_iff.2 (fun h => by have := HOK.out.1 h; omega)]; rfl
          have HSO : Hid (sortO l [] = none) := by show _ = _; rw [Gr.fresh_sortO HP.out HS.out, hfr]; rfl
          have HB3 := Lib.hid (HB2.out.trans (HBW.out.mono HB2.out.size))
          clear hfr
          refine use_regG (c' := sreg6) (by kernel_rfl) ?_
          refine s6_2 (x := ⟨#[]⟩) y0 y1 y2 e1 d2 ?_
          intro _ _ _ _ _ _ _ _ _ _ _ _ _ _ _ _ _ _ _ _ _ _ _ _ _ _ _ _ _ _ _ _ _ _ _ _ _ _ _ B hB
          subst hB
          go_wp2
          go_ret2
          refine ⟨.slice none 0 0, ?_, fun s hs => ?_, fun hn => ?_, HB3.out.drew⟩
          · rw [HSO.out]; rfl
          · rw [HSO.out] at hs; cases hs
          · rfl
        · have d2 : ¬ (40 : Int) < ((bytes r.name).size : Int) := by rw [bytes_size]; exact h2
          have q2 : decide ((40 : Int) < ((bytes r.name).size : Int)) = false := decide_eq_false d2
          by_cases h3 : (1000 : Int) < (r.typ.length : Int)
          · have d3 : (1000 : Int) < ((bytes r.typ).size : Int) := by rw [bytes_size]; exact h3
            have hfr : Gr.fresh d = false := by rw [HFD.out]; rw [show r.ok = false from Bool.eq_false_iff.2 (fun h => by have := HOK.out.1 h; omega)]; rfl
            have HSO : Hid (sortO l [] = none) := by show _ = _; rw [Gr.fresh_sortO HP.out HS.out, hfr]; rfl
            have HB3 := Lib.hid (HB2.out.trans (HBW.out.mono HB2.out.size))
            clear hfr
            refine use_regG (c' := sreg6) (by kernel_rfl) ?_
            refine s6_3 (x := ⟨#[]⟩) y0 y1 y2 e1 d2 d3 ?_
            intro _ _ _ _ _ _ _ _ _ _ _ _ _ _ _ _ _ _ _ _ _ _ _ _ _ _ _ _ _ _ _ _ _ _ _ _ _ _ _ B hB
            subst hB
            go_wp2
            go_ret2
            refine ⟨.slice none 0 0, ?_, fun s hs => ?_, fun hn => ?_, HB3.out.drew⟩
            · rw [HSO.out]; rfl
            · rw [HSO.out] at hs; cases hs
            · rfl
          · have d3 : ¬ (1000 : Int) < ((bytes r.typ).size : Int) := by rw [bytes_size]; exact h3
            have q3 : decide ((1000 : Int) < ((bytes r.typ).size : Int)) = false := decide_eq_false d3
            by_cases h4 : r.id < 1
            · have hfr : Gr.fresh d = false := by rw [HFD.out]; rw [show r.ok = false from Bool.eq_false_iff.2 (fun h => by have := HOK.out.1 h; omega)]; rfl
              have HSO : Hid (sortO l [] = none) := by show _ = _; rw [Gr.fresh_sortO HP.out HS.out, hfr]; rfl
              have HB3 := Lib.hid (HB2.out.trans (HBW.out.mono HB2.out.size))
              clear hfr
              refine use_regG (c' := sreg6) (by kernel_rfl) ?_
              refine s6_4 (x := ⟨#[]⟩) y0 y1 y2 e1 d2 d3 h4 ?_
              intro _ _ _ _ _ _ _ _ _ _ _ _ _ _ _ _ _ _ _ _ _ _ _ _ _ _ _ _ _ _ _ _ _ _ _ _ _ _ _ B hB
              subst hB
              go_wp2
              go_ret2
              refine ⟨.slice none 0 0, ?_, fun s hs => ?_, fun hn => ?_, HB3.out.drew⟩
              · rw [HSO.out]; rfl
              · rw [HSO.out] at hs; cases hs
              · rfl
            · have q4 : decide (r.id < 1) = false := decide_eq_false h4
              by_cases h5 : 1099511627776 < r.id
              · have hfr : Gr.fresh d = false := by rw [HFD.out]; rw [show r.ok = false from Bool.eq_false_iff.2 (fun h => by have := HOK.out.1 h; omega)]; rfl
                have HSO : Hid (sortO l [] = none) := by show _ = _; rw [Gr.fresh_sortO HP.out HS.out, hfr]; rfl
                have HB3 := Lib.hid (HB2.out.trans (HBW.out.mono HB2.out.size))
                clear hfr
                refine use_regG (c' := sreg6) (by kernel_rfl) ?_
                refine s6_5 (x := ⟨#[]⟩) y0 y1 y2 e1 d2 d3 h4 h5 ?_
                intro _ _ _ _ _ _ _ _ _ _ _ _ _ _ _ _ _ _ _ _ _ _ _ _ _ _ _ _ _ _ _ _ _ _ _ _ _ _ _ B hB
                subst hB
                go_wp2
                go_ret2
                refine ⟨.slice none 0 0, ?_, fun s hs => ?_, fun hn => ?_, HB3.out.drew⟩
                · rw [HSO.out]; rfl
                · rw [HSO.out] at hs; cases hs
                · rfl
              · have q5 : decide (1099511627776 < r.id) = false := decide_eq_false h5
                by_cases h6 : i = 0
                · have d6 : ¬ (0 : Int) < (i : Int) := by omega
                  have q6 : decide ((0 : Int) < (i : Int)) = false := decide_eq_false d6
                  have hfr : Gr.fresh d = fr2 (prevN d (i + 1)) (d.drop (i + 1)) := by rw [HFD.out, HOK.out.2 ⟨h1, by omega, by omega, by omega, by omega⟩]; simp [prevN, h6]
                  have HFR := Lib.hid hfr
                  clear hfr h6
                  refine use_regG (c' := sreg6) (by kernel_rfl) ?_
                  refine s6_6 (x := ⟨#[]⟩) y0 y1 y2 e1 d2 d3 h4 h5 d6 ?_
                  intro _ _ _ _ _ _ _ _ _ _ _ _ _ _ _ _ _ _ _ _ _ _ _ _ _ _ _ _ _ _ _ _ _ _ _ _ _ _ _ B hB
                  subst hB
                  go_wp2
                  go_roundg (gk - 1)
                  case measure => have := HI.out; have := HLT.out; omega
                  case rel => exact ⟨i + 1, by have := HI.out; have := HLT.out; omega, by go_num, HFR.out, HBW.out.drew⟩
                · have d6 : (0 : Int) < (i : Int) := by omega
                  obtain ⟨j, rfl⟩ : ∃ j, i = j + 1 := ⟨i - 1, by omega⟩
                  obtain ⟨x, hx⟩ : ∃ x, d[j]? = some x := ⟨_, List.getElem?_eq_getElem (by omega)⟩
                  obtain ⟨b', off', e', hbl', x0, _, _⟩ := HCC.out j x hx
                  cases e'
                  have x0 := (HBW.out.cell (p := ⟨b, off + j * 3, none⟩) hbl').trans x0
                  have ej : ((j + 1 : Nat) : Int) - 1 = (j : Int) := by omega
                  have hpv : prevN d (j + 1) = some x.name := by unfold prevN; rw [if_neg (by omega), Nat.add_sub_cancel, hx]; rfl
                  have j0 : (0 : Int) ≤ (j : Int) := by omega
                  have j1 : (j : Int) < (l.length : Int) := by omega
                  by_cases h7 : r.name = x.name
                  · have e7 : ((bytes r.name).toList == (bytes x.name).toList) = true := by rw [h7]; simp
                    have hfr : Gr.fresh d = false := by rw [HFD.out]; rw [hpv, h7]; simp
                    have HSO : Hid (sortO l [] = none) := by show _ = _; rw [Gr.fresh_sortO HP.out HS.out, hfr]; rfl
                    have HB3 := Lib.hid (HB2.out.trans (HBW.out.mono HB2.out.size))
                    clear hfr
                    refine use_regG (c' := sreg6) (by kernel_rfl) ?_
                    refine s6_7 y0 y1 y2 e1 d2 d3 h4 h5 d6 ej j0 j1 x0 (by omega) e7 ?_
                    intro _ _ _ _ _ _ _ _ _ _ _ _ _ _ _ _ _ _ _ _ _ _ _ _ _ _ _ _ _ _ _ _ _ _ _ _ _ _ _ B hB
                    subst hB
                    go_wp2
                    go_ret2
                    refine ⟨.slice none 0 0, ?_, fun s hs => ?_, fun hn => ?_, HB3.out.drew⟩
                    · rw [HSO.out]; rfl
                    · rw [HSO.out] at hs; cases hs
                    · rfl
                  · have e7 : ((bytes r.name).toList == (bytes x.name).toList) = false := by rw [ByteArray.toList_eq, ByteArray.toList_eq]; simpa [bytes] using h7
                    have hfr : Gr.fresh d = fr2 (prevN d (j + 1 + 1)) (d.drop (j + 1 + 1)) := by rw [HFD.out, HOK.out.2 ⟨h1, by omega, by omega, by omega, by omega⟩]; simp [hpv, Ne.symm h7]
                    have HFR := Lib.hid hfr
                    clear hfr
                    refine use_regG (c' := sreg6) (by kernel_rfl) ?_
                    refine s6_8 y0 y1 y2 e1 d2 d3 h4 h5 d6 ej j0 j1 x0 (by omega) e7 ?_
                    intro _ _ _ _ _ _ _ _ _ _ _ _ _ _ _ _ _ _ _ _ _ _ _ _ _ _ _ _ _ _ _ _ _ _ _ _ _ _ _ B hB
                    subst hB
                    go_wp2
                    go_roundg (gk - 1)
                    case measure => have := HI.out; have := HLT.out; omega
                    case rel => exact ⟨j + 1 + 1, by have := HI.out; have := HLT.out; omega, by go_num, HFR.out, HBW.out.drew⟩
    · have i1 : ¬ (i : Int) < (l.length : Int) := by omega
      have hz : i = d.length := by omega
      have hfr : Gr.fresh d = true := by rw [hf, hz, List.drop_length]; rfl
      have HSO : Hid (sortO l [] = some d) := by show _ = _; rw [Gr.fresh_sortO HP.out HS.out, hfr]; rfl
      have HR3 := Lib.hid (HR2.out.below HB.out)
      have HB3 := Lib.hid (HB2.out.trans (HB.out.mono HB2.out.size))
      clear hz hfr hi hf hb hlt
      go_wp2
      go_ret2
      refine ⟨.slice ao l.length cap, ?_, fun s hs => ?_, fun hn => ?_, HB3.out⟩
      · rw [HSO.out]; rfl
      · rw [HSO.out] at hs; cases hs; exact HR3.out
      · rw [HSO.out] at hn; cases hn
end Go.Proofs.YtenikoecnfbfoaaGreatDoor
/- Layer 8: the program's Dir and Roots, whole. -/
namespace Go.Proofs.YtenikoecnfbfoaaGreatDoor
open Go.RowKit
set_option linter.unusedVariables false
open Gr (RT gather rootsT dirT)
theorem gd_sizes {l : List RT} (h : ∀ r ∈ l, Gd r) : ∀ r ∈ l, r.name.length ≤ 1000000 ∧ r.typ.length ≤ 1000000 := fun r hr => ⟨(h r hr).1, (h r hr).2.1⟩
theorem dir_any (w : World) (v : Value) (l : List RT) (h : RtAt w v l) (hl : l.length ≤ 1000000) (hsz : ∀ r ∈ l, Gd r) : Calls Tryz.prog 19 #[v] w (DirEnd w (dirT l)) :=
  dir_any' w v l h hl hsz (fun W hW => sorted_any W v l (h.below hW) hl (gd_sizes hsz))
theorem rootsP_any (w : World) (P : Nat → Prop) (v : VT) (vv : Value) (hv : ValIs w P v vv) (hP : ∀ b, P b → b < w.heap.size) (hg : ∀ out, gather 102 v [] = some out → ∀ r ∈ out, Gd r) :
    Calls Tryz.prog 21 #[vv] w (RootsEnd 82 w (rootsT v)) :=
  roots_any w P v vv hv hP hg (fun l s W h hl hd => sorted_any W s l h hl (gd_sizes hd))
end Go.Proofs.YtenikoecnfbfoaaGreatDoor
/- Layer 8: the law's toRoots, fromRoots. -/
namespace Go.Proofs.YtenikoecnfbfoaaGreatDoor
open Go.RowKit
set_option linter.unusedVariables false
set_option linter.unusedSimpArgs false
open Gr (RT)
def ToI (T : TypeId) (w : World) (l : List RT) (gk : Nat) (s3 s4 : Value) (wr : World) : Prop :=
  ∃ i : Nat, s4 = .int .i64 (i : Int) ∧ i + gk = l.length ∧ RtRow T wr w.heap.size s3 (l.take i) ∧ Below w.heap.size w wr
set_option maxRecDepth 100000 in
set_option maxHeartbeats 8000000 in
theorem toRoots_any (w : World) (v : Value) (l : List RT) (h : RtAt w v l) (hl : l.length ≤ 1000000) : Calls Tryz.prog 9 #[v] w fun e w' => ∃ v', e = .returned v' ∧ RtRow 82 w' w.heap.size v' l ∧ Below w.heap.size w w' := by
  obtain ⟨ao, cap, rfl, hcc⟩ := h.cells
  have HCC := Lib.hid hcc
  have hl2 : (l.length : Int) ≤ 1000000 := by omega
  clear h hl hcc
  go_enter Tryz.func9, Tryz.ntmps9
  go_wp2
  go_loopg [3, 4] l.length (fun gk s3 s4 wr => ToI 82 w l gk s3 s4 wr)
  case atStart => exact ⟨0, rfl, by omega, RtRow.nil _ _ _, Below.refl _ _⟩
  case round =>
    obtain ⟨i, rfl, hi, hrow, hb⟩ := hrel
    have HI := Lib.hid hi
    have HROW := Lib.hid hrow
    have HB := Lib.hid hb
    obtain ⟨a3, c3, e3, _⟩ := hrow.at_
    subst e3
    have i0 : (0 : Int) ≤ (i : Int) := by omega
    by_cases hlt : i < l.length
    · have i1 : (i : Int) < (l.length : Int) := by omega
      obtain ⟨r, hr⟩ : ∃ r, l[i]? = some r := ⟨_, List.getElem?_eq_getElem hlt⟩
      obtain ⟨b, off, rfl, hbl, d0, d1, d2⟩ := HCC.out i r hr
      have hS : ∀ W, Below w.heap.size wr W → W.cell? ⟨b, off + i * 3, none⟩ = some (.string (bytes r.name)) ∧ W.cell? ⟨b, off + i * 3 + 1, none⟩ = some (.string (bytes r.typ)) ∧ W.cell? ⟨b, off + i * 3 + 2, none⟩ = some (.int .i64 r.id) := fun W hW =>
        ⟨((hb.trans hW).cell (p := ⟨b, off + i * 3, none⟩) hbl).trans d0, ((hb.trans hW).cell (p := ⟨b, off + i * 3 + 1, none⟩) hbl).trans d1, ((hb.trans hW).cell (p := ⟨b, off + i * 3 + 2, none⟩) hbl).trans d2⟩
      have HS := Lib.hid hS
      have HR := Lib.hid hr
      have HLT := Lib.hid hlt
      have HSZ : Hid (w.heap.size ≤ wr.heap.size) := hb.size
      have htl : (l.take i).length = i := by rw [List.length_take]; omega
      rw [htl] at HROW
      have HTL := Lib.hid htl
      clear hrow hb hi hS hr hlt hbl d0 d1 d2 htl
      rw [HTL.out]
      go_wp2
      go_region_held3 (fun w' => w'.cell? ⟨b, off + i * 3, none⟩ = some (.string (bytes r.name)) ∧ w'.cell? ⟨b, off + i * 3 + 1, none⟩ = some (.string (bytes r.typ)) ∧ w'.cell? ⟨b, off + i * 3 + 2, none⟩ = some (.int .i64 r.id))
        (first | exact HS.out _ (Below.refl _ _) | exact HS.out _ (Below.refl _ _).drew | exact HS.out _ ((Below.refl _ _).drew.alloc HSZ.out _) | exact HS.out _ HB9.out)
        (first
          | (refine step_root (w := wr.drew.alloc (.cells #[.string (bytes r.name), .string (bytes r.typ), .int .i64 r.id] 82)) (N := w.heap.size) (l := l.take i) (r := r) (v := .slice a3 i c3) (ad := ⟨wr.heap.size, 0, none⟩) (c := 1) Tryz.underlying28 infoRtG rfl _ _ rfl rfl ((HROW.out.below (Below.refl _ _).drew).below ((Below.refl _ _).alloc (Nat.le_refl _) _)) rfl (cell_three_new wr.drew _ _ _ _) (by have := HSZ.out; simp; omega) (by rw [HTL.out]; omega) ?_; rw [HTL.out]; intro a9 c9 w9 hr9 hb9 hc9; have HR9 := Lib.hid hr9; have HB9 := Lib.hid (((Below.refl _ _).drew.alloc HSZ.out _).trans hb9); clear hr9 hb9 hc9))
      go_wp2
      go_roundg (gk - 1)
      case measure => have := HI.out; have := HLT.out; omega
      case rel => exact ⟨i + 1, by go_num, by have := HI.out; have := HLT.out; omega, by rw [List.take_add_one, HR.out]; exact HR9.out, HB.out.trans HB9.out⟩
    · have i1 : ¬ (i : Int) < (l.length : Int) := by omega
      have hz : l.take i = l := List.take_of_length_le (by omega)
      rw [hz] at HROW ⊢
      clear hz hrow hb hi hlt
      go_wp2
      go_ret
      exact ⟨_, rfl, HROW.out, HB.out⟩
set_option maxRecDepth 100000 in
set_option maxHeartbeats 8000000 in
theorem fromRoots_any (w : World) (v : Value) (l : List RT) (h : RtAt w v l) (hl : l.length ≤ 1000000) : Calls Tryz.prog 23 #[v] w fun e w' => ∃ v', e = .returned v' ∧ RtRow 66 w' w.heap.size v' l ∧ Below w.heap.size w w' := by
  obtain ⟨ao, cap, rfl, hcc⟩ := h.cells
  have HCC := Lib.hid hcc
  have hl2 : (l.length : Int) ≤ 1000000 := by omega
  clear h hl hcc
  go_enter Tryz.func23, Tryz.ntmps23
  go_wp2
  go_loopg [3, 4] l.length (fun gk s3 s4 wr => ToI 66 w l gk s3 s4 wr)
  case atStart => exact ⟨0, rfl, by omega, RtRow.nil _ _ _, Below.refl _ _⟩
  case round =>
    obtain ⟨i, rfl, hi, hrow, hb⟩ := hrel
    have HI := Lib.hid hi
    have HROW := Lib.hid hrow
    have HB := Lib.hid hb
    obtain ⟨a3, c3, e3, _⟩ := hrow.at_
    subst e3
    have i0 : (0 : Int) ≤ (i : Int) := by omega
    by_cases hlt : i < l.length
    · have i1 : (i : Int) < (l.length : Int) := by omega
      obtain ⟨r, hr⟩ : ∃ r, l[i]? = some r := ⟨_, List.getElem?_eq_getElem hlt⟩
      obtain ⟨b, off, rfl, hbl, d0, d1, d2⟩ := HCC.out i r hr
      have hS : ∀ W, Below w.heap.size wr W → W.cell? ⟨b, off + i * 3, none⟩ = some (.string (bytes r.name)) ∧ W.cell? ⟨b, off + i * 3 + 1, none⟩ = some (.string (bytes r.typ)) ∧ W.cell? ⟨b, off + i * 3 + 2, none⟩ = some (.int .i64 r.id) := fun W hW =>
        ⟨((hb.trans hW).cell (p := ⟨b, off + i * 3, none⟩) hbl).trans d0, ((hb.trans hW).cell (p := ⟨b, off + i * 3 + 1, none⟩) hbl).trans d1, ((hb.trans hW).cell (p := ⟨b, off + i * 3 + 2, none⟩) hbl).trans d2⟩
      have HS := Lib.hid hS
      have HR := Lib.hid hr
      have HLT := Lib.hid hlt
      have HSZ : Hid (w.heap.size ≤ wr.heap.size) := hb.size
      have htl : (l.take i).length = i := by rw [List.length_take]; omega
      rw [htl] at HROW
      have HTL := Lib.hid htl
      clear hrow hb hi hS hr hlt hbl d0 d1 d2 htl
      rw [HTL.out]
      go_wp2
      go_region_held3 (fun w' => w'.cell? ⟨b, off + i * 3, none⟩ = some (.string (bytes r.name)) ∧ w'.cell? ⟨b, off + i * 3 + 1, none⟩ = some (.string (bytes r.typ)) ∧ w'.cell? ⟨b, off + i * 3 + 2, none⟩ = some (.int .i64 r.id))
        (first | exact HS.out _ (Below.refl _ _) | exact HS.out _ (Below.refl _ _).drew | exact HS.out _ ((Below.refl _ _).drew.alloc HSZ.out _) | exact HS.out _ HB9.out)
        (first
          | (refine step_root (w := wr.drew.alloc (.cells #[.string (bytes r.name), .string (bytes r.typ), .int .i64 r.id] 66)) (N := w.heap.size) (l := l.take i) (r := r) (v := .slice a3 i c3) (ad := ⟨wr.heap.size, 0, none⟩) (c := 1) Tryz.underlying22 infoRt8 rfl _ _ rfl rfl ((HROW.out.below (Below.refl _ _).drew).below ((Below.refl _ _).alloc (Nat.le_refl _) _)) rfl (cell_three_new wr.drew _ _ _ _) (by have := HSZ.out; simp; omega) (by rw [HTL.out]; omega) ?_; rw [HTL.out]; intro a9 c9 w9 hr9 hb9 hc9; have HR9 := Lib.hid hr9; have HB9 := Lib.hid (((Below.refl _ _).drew.alloc HSZ.out _).trans hb9); clear hr9 hb9 hc9))
      go_wp2
      go_roundg (gk - 1)
      case measure => have := HI.out; have := HLT.out; omega
      case rel => exact ⟨i + 1, by go_num, by have := HI.out; have := HLT.out; omega, by rw [List.take_add_one, HR.out]; exact HR9.out, HB.out.trans HB9.out⟩
    · have i1 : ¬ (i : Int) < (l.length : Int) := by omega
      have hz : l.take i = l := List.take_of_length_le (by omega)
      rw [hz] at HROW ⊢
      clear hz hrow hb hi hlt
      go_wp2
      go_ret
      exact ⟨_, rfl, HROW.out, HB.out⟩
end Go.Proofs.YtenikoecnfbfoaaGreatDoor
