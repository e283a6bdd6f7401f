/- The program's show. -/
import Derived.Test.YthchkekegkhanaaDoorKdNone
namespace Go.Proofs.YthchkekegkhanaaDoor
open Go.RowKit Go.Maps
set_option linter.unusedVariables false
theorem zeroS (w : World) : (zeroValue 9).run Tryd.prog w = .ok (.string ⟨#[]⟩) w := by kernel_rfl
/-- The map that names the variables: each by its place in h. -/
def Names (w : World) (b : Nat) (h : List Int) : Prop := ∃ m f, VMap Tryd.prog 3 w b m f ∧ ∀ n, n ∈ h → f n = some (.string (ltr (h.idxOf n)))
set_option maxRecDepth 100000 in
theorem show_var (n : Int) {h : List Int} {v : Value} {b : Nat} {w : World} {P : Nat → Prop} (ht : TyIs w P (.var n) v) (hm : Names w b h) (hn : n ∈ h) :
    Calls Tryd.prog 42 #[v, .map (some b)] w (ShowEnd w (ltr (h.idxOf n))) := by
  obtain ⟨ao, cap, rfl, hcap, hwn, _⟩ := ht.var
  obtain ⟨m, f, hf, hk⟩ := hm
  have hlk : ∀ o, (Instr.lookup 78 (.map (some b)) (.int .i64 n) false).run Tryd.prog (w.alloc o) = .ok (.string (ltr (h.idxOf n))) (w.alloc o) := fun o => by
    have := (hf.alloc o).look1 (t := 78) Tryd.underlying3 Tryd.underlying78 (zeroS _) hwn
    rw [hk n hn] at this; exact this
  clear ht hf hk hn
  go_enter Tryd.func42, Tryd.ntmps42
  go_wp2
  refine bodyPost_ret (v := .string (ltr (h.idxOf n))) (by simp [results, Tryd.results42, go_sem]) rfl ?_
  exact ⟨rfl, (Below.refl _ _).alloc (Nat.le_refl _) _⟩
/-- What strings.Join makes of a name and the texts of the parts. -/
theorem shws_join (h : List Int) : ∀ (l : List Ty), (((l.map (Ty.shw h)).map (·.data.toList)).map (fun x => [32] ++ x)).flatten = (Ty.shws h l).data.toList
  | [] => by rw [Ty.shws]; rfl
  | t :: l => by
    rw [Ty.shws, List.map_cons, List.map_cons, List.map_cons, List.flatten_cons, shws_join h l]
    simp
theorem show_joined {w : World} {v : Value} {c : ByteArray} {l : List Ty} {h : List Int} (hr : Row w 9 v ((c :: l.map (Ty.shw h)).map Value.string)) (hs : (c ++ Ty.shws h l).size ≤ 100000000) (hn : l.length ≤ 1000000) :
    Calls Tryd.prog 54 #[v, .string ⟨#[32]⟩] w fun e w' => e = .returned (.string (c ++ Ty.shws h l)) ∧ Below w.heap.size w w' := by
  have hj : Lib.join ((c :: l.map (Ty.shw h)).map (·.data.toList)) [32] = (c ++ Ty.shws h l).data.toList := by
    rw [List.map_cons, Lib.join_cons, Lib.joinTail, shws_join]
    simp
  rcases hr.shape with ⟨_, h0⟩ | ⟨g, cap, rfl, h1, h2, h3⟩
  · simp at h0
  · rw [List.length_map] at h1 hr ⊢
    have := Tryd.strings_Join g 0 cap (c :: l.map (Ty.shw h)) ⟨#[32]⟩ w (fun j x hx => by
      have hj := (List.getElem?_eq_some_iff.1 hx).1
      rw [Nat.zero_add, hr.cellAt j (by rw [List.length_map]; exact hj), List.getElem?_map, hx]
      rfl) h3 (by rw [List.length_cons, List.length_map]; omega) h1 (by
        rw [show (⟨#[32]⟩ : ByteArray).data.toList = [32] from rfl, hj]
        have : (c ++ Ty.shws h l).data.toList.length ≤ 100000000 := Nat.le_trans (Nat.le_of_eq (Array.length_toList)) hs
        omega)
    rw [show (⟨#[32]⟩ : ByteArray).data.toList = [32] from rfl, hj] at this
    exact this
end Go.Proofs.YthchkekegkhanaaDoor
/- The program's show: all the way down. -/
namespace Go.Proofs.YthchkekegkhanaaDoor
open Go.RowKit Go.Maps
set_option linter.unusedVariables false

theorem infoS : (Tryd.prog.info? 9).map (fun i => (i.zero, i.size, i.bytes)) = some (some (.string ⟨#[]⟩), 1, 16) := by kernel_rfl
theorem Names.below {w w' : World} {b : Nat} {h : List Int} (hn : Names w b h) (hb : Below w.heap.size w w') : Names w' b h := by
  obtain ⟨m, f, hf, hk⟩ := hn
  exact ⟨m, f, hf.chg (below_chg hb) (by simp), hk⟩
def ShowKids (W : World) (h : List Int) (c : ByteArray) (l : List Ty) (gk : Nat) (s5 s29 : Value) (wr : World) : Prop :=
  ∃ i : Nat, s29 = .int .i64 i ∧ i + gk = l.length ∧ Row wr 9 s5 ((c :: (l.take i).map (Ty.shw h)).map Value.string) ∧ (∀ k, s5.ownBlock = some k → W.heap.size ≤ k) ∧ Below W.heap.size W wr
theorem show_next {w wr w7 w9 : World} {u5 : Value} {o : Obj} (hb : Below w.heap.size w wr) (B7 : Below wr.heap.size wr w7) (hg9 : (w7.alloc o).grownBy w9 u5.ownBlock) (hO : ∀ k, u5.ownBlock = some k → w.heap.size ≤ k) : Below w.heap.size w w9 :=
  ((((below_chg (hb.trans (B7.mono hb.size))).mono (F' := u5.ownBlock.toList) (by simp)).alloc o).grown hg9 (fun k hk => .inl (by simp [hk]))).below (Nat.le_refl _) (fun k hk => hO k (Option.mem_toList.1 hk))
set_option maxRecDepth 100000 in
set_option maxHeartbeats 1600000 in
theorem show_walk {h : List Int} {b : Nat} (k : Nat) : ∀ (t : Ty) (v : Value) (w : World) (P : Nat → Prop), t.sz ≤ k → t.sz ≤ 100000 → t.short → (∀ n, t.has n = true → n ∈ h) → TyIs w P t v → (∀ b, P b → b < w.heap.size) → Names w b h →
    Calls Tryd.prog 42 #[v, .map (some b)] w (ShowEnd w (t.shw h)) := by
  induction k with
  | zero => intro t v w P hk; have := t.sz_pos; omega
  | succ k ih =>
    intro t v w P hk hsz hsh hin ht hP hr
    cases t with
    | var n => rw [Ty.shw]; exact show_var n ht hr (hin n (by rw [Ty.has]; simp))
    | con c l =>
      obtain ⟨ao, cap, rfl, hle, hmx, hcz, _, hkl⟩ := ht.con
      unfold maxLen at hmx
      rw [Ty.short] at hsh
      obtain ⟨hc100, hshl⟩ := hsh
      have HR := Lib.hid hr
      have HKL := Lib.hid hkl
      have HP := Lib.hid hP
      have HSH := Lib.hid hshl
      have HIN : Hid (∀ t ∈ l, ∀ n, t.has n = true → n ∈ h) := fun t ht n hn => hin n (by rw [Ty.has]; exact hass_of hn ht)
      have HKS : Hid (∀ t ∈ l, t.sz ≤ k ∧ t.sz ≤ 100000) := fun t ht => by
        have := Ty.szs_mem ht
        rw [Ty.sz] at hk hsz
        omega
      have hzl : Hid (Ty.szs l ≤ 100000) := by rw [Ty.sz] at hsz; show _ ≤ _; omega
      have hll : l.length ≤ 100000 := Nat.le_trans (Ty.szs_len l) hzl.out
      clear hr hkl hP hshl hin ht hk hsz hcz
      by_cases h0 : l.length = 0
      · have hl0 : l = [] := List.length_eq_zero_iff.1 h0
        subst hl0
        go_enter Tryd.func42, Tryd.ntmps42
        go_wp2
        refine bodyPost_ret (v := .string c) (by simp [results, Tryd.results42, go_sem]) rfl ?_
        exact ⟨by rw [Ty.shw]; rfl, (Below.refl _ _).alloc (Nat.le_refl _) _⟩
      · have hpos : 0 < l.length := by omega
        have hne : ((l.length : Int) == 0) = false := by simp; intro e; rw [e] at hpos; simp at hpos
        go_enter Tryd.func42, Tryd.ntmps42
        go_wp2
        obtain ⟨W, hW⟩ : ∃ W, W = (w.alloc (.cells #[.int .i64 1, .int .i64 0, .string c, .slice ao l.length cap] 25)).alloc (.cells #[.string c] 9) := ⟨_, rfl⟩
        have hBW : Hid (Below w.heap.size w W) := by rw [hW]; exact ((Below.refl _ _).alloc (Nat.le_refl _) _).alloc (by simp) _
        have hR0 : Hid (Row W 9 (.slice (some ⟨w.heap.size + 1, 0, none⟩) 1 1) [.string c]) := by
          rw [hW]
          refine ⟨rfl, .inr ⟨w.heap.size + 1, 1, #[.string c], rfl, Nat.zero_le _, ?_, Nat.le_refl _, by unfold maxLen; omega, rfl, rfl⟩⟩
          exact heap_new2 w _ _
        rw [← hW]
        clear hW
        have HL : Hid (ShowKids w h c l l.length (.slice (some ⟨w.heap.size + 1, 0, none⟩) 1 1) (.int .i64 0) W) := ⟨0, rfl, by omega, hR0.out, fun k hk => by simp only [Value.ownBlock, Option.some.injEq] at hk; omega, hBW.out⟩
        go_loopg [5, 29] l.length (fun gk s5 s29 wr => ShowKids w h c l gk s5 s29 wr)
        case atStart => exact HL.out
        case round =>
          clear HL
          obtain ⟨i, rfl, hik, hrow, hob, hbi⟩ := hrel
          have HB0 := Lib.hid hbi
          have HRR := Lib.hid hrow
          have HO := Lib.hid hob
          have hbs := hbi.size
          clear hrow hob hbi
          have g0 : (0 : Int) ≤ (i : Int) := by omega
          by_cases hlt : i < l.length
          · have g1 : (i : Int) < (l.length : Int) := by omega
            obtain ⟨tk, htk⟩ : ∃ u, l[i]? = some u := ⟨_, List.getElem?_eq_getElem hlt⟩
            have hmem := List.mem_of_getElem? htk
            obtain ⟨bb, oo, rfl, hbb⟩ := HKL.out.addr htk
            obtain ⟨_, ak, ck, p0, p1, p2, p3, hvk⟩ := HKL.out.cells htk
            rw [Nat.zero_add] at p0 p1 p2 p3
            have hbn := HP.out _ hbb
            replace p0 := (HB0.out.cell (p := ⟨bb, oo + i * 4, none⟩) hbn).trans p0
            replace p1 := (HB0.out.cell (p := ⟨bb, oo + i * 4 + 1, none⟩) hbn).trans p1
            replace p2 := (HB0.out.cell (p := ⟨bb, oo + i * 4 + 2, none⟩) hbn).trans p2
            replace p3 := (HB0.out.cell (p := ⟨bb, oo + i * 4 + 3, none⟩) hbn).trans p3
            have hbd : Below w.heap.size w (wr.alloc (.cells #[.int .i64 tk.op, .int .i64 tk.num, .string tk.text, .slice ak tk.kids.length ck] 25)) := HB0.out.trans (((Below.refl _ _).alloc (Nat.le_refl _) _).mono hbs)
            have HCALL := Lib.hid (ih tk _ (wr.alloc (.cells #[.int .i64 tk.op, .int .i64 tk.num, .string tk.text, .slice ak tk.kids.length ck] 25)) P (HKS.out tk hmem).1 (HKS.out tk hmem).2 (shorts_mem HSH.out hmem) (HIN.out tk hmem) (hvk.below hbd HP.out) (fun b hb => Nat.lt_of_lt_of_le (HP.out b hb) hbd.size) (HR.out.below hbd))
            clear hvk hbn hbb hmem hbd
            unfold tval ShowEnd at HCALL
            have HTK := Lib.hid htk
            clear htk
            generalize hs9 : Ty.shw h tk = s9 at HCALL
            have HS9 := Lib.hid hs9
            clear hs9
            go_upto_region 9 with fail
            go_wp2_with (first | (go_at_call 42; refine HCALL.out.mono ?_; clear HCALL; rintro e w7 ⟨rfl, hb7⟩; have B7 : Hid (Below wr.heap.size wr w7) := ((Below.refl _ _).alloc (Nat.le_refl _) _).trans (hb7.mono (by simp)); clear hb7) | (at_builtin; (refine wpList_app _ rfl _ _ 87 rfl 9 (.string ⟨#[]⟩) 16 Tryd.underlying87 infoS rfl u5 ((c :: (l.take i).map (Ty.shw h)).map Value.string) rfl (World.ownsRow.alloc (HRR.out.chg (F := []) ⟨B7.out.os, B7.out.tape, B7.out.output, B7.out.size, fun i hi _ => B7.out.block i hi⟩ (fun _ _ => by simp)) _) ⟨w7.heap.size, 0, none⟩ 1 1 [.string s9] rfl (by omega) rfl (cell_one_new _ _ _) (by intro u hu; simp at hu; rw [hu]; rfl) (by simp; omega) (by omega) ?_); intro g cap9 w9 hr9 hg9 hl9))
            go_roundg (gk - 1)
            case measure => omega
            case rel =>
              refine ⟨i + 1, by go_num, by omega, ?_, ?_, show_next HB0.out B7.out hg9 HO.out⟩
              · have e : (c :: (l.take (i + 1)).map (Ty.shw h)).map Value.string = ((c :: (l.take i).map (Ty.shw h)).map Value.string) ++ [Value.string s9] := by rw [take_snoc HTK.out, ← HS9.out]; simp
                rw [e]
                simp only [List.length_map, List.length_cons, List.length_take] at hr9
                exact hr9
              · intro k hk
                simp only [Value.ownBlock, Option.some.injEq] at hk
                subst hk
                rcases hl9 with e | e
                · exact HO.out _ e
                · have := B7.out.size; simp at e; omega
          · obtain rfl : i = l.length := by omega
            rw [List.take_length] at HRR
            have hj := Lib.hid (show_joined HRR.out (h := h) (by rw [ByteArray.size_append]; have := Ty.shws_size h l HSH.out; have := hzl.out; omega) (by omega))
            have hqs : (c ++ Ty.shws h l).size ≤ 20000000 := by rw [ByteArray.size_append]; have := Ty.shws_size h l HSH.out; have := hzl.out; omega
            have HE : Hid (Ty.shw h (.con c l) = (⟨#[40]⟩ ++ (c ++ Ty.shws h l)) ++ ⟨#[41]⟩) := by
              have hlb : l.isEmpty = false := by cases l with | nil => simp at hpos | cons a b => rfl
              show _ = _
              rw [Ty.shw, hlb]
              simp [ByteArray.append_assoc]
            generalize c ++ Ty.shws h l = q at hj hqs HE
            have ho1 : ¬ 9223372036854775807 < 1 + q.size := by omega
            have ho2 : ¬ 9223372036854775807 < 1 + q.size + 1 := by omega
            clear HRR
            go_wp2_with (go_at_call 54; refine hj.out.mono ?_; clear hj; rintro e w7 ⟨rfl, hb7⟩; have B7 := Lib.hid hb7; clear hb7)
            refine bodyPost_ret (v := .string ((⟨#[40]⟩ ++ q) ++ ⟨#[41]⟩)) (by simp [results, Tryd.results42, go_sem]) rfl ?_
            exact ⟨by rw [HE.out], HB0.out.trans (B7.out.mono hbs)⟩
end Go.Proofs.YthchkekegkhanaaDoor
/- The program's Show. -/
namespace Go.Proofs.YthchkekegkhanaaDoor
open Go.RowKit Go.Maps
set_option linter.unusedVariables false

theorem TyIs.num_wf {w : World} {P : Nat → Prop} {n : Int} (t : Ty) : ∀ {v : Value}, TyIs w P t v → t.has n = true → (Lit.int .i64 n).wf = true := by
  refine Ty.ind (p := fun t => ∀ {v : Value}, TyIs w P t v → t.has n = true → (Lit.int .i64 n).wf = true) (fun m v h hn => ?_) (fun c l ih v h hn => ?_) t
  · obtain ⟨ao, cap, _, _, hw, _⟩ := h.var
    have : m = n := by simpa [Ty.has] using hn
    rw [← this]; exact hw
  · obtain ⟨ao, cap, _, _, _, _, _, hk⟩ := h.con
    rw [Ty.has] at hn
    obtain ⟨u, hu, hun⟩ := Ty.hass_mem.1 hn
    obtain ⟨i, hi⟩ := List.getElem?_of_mem hu
    obtain ⟨bb, oo, rfl, _⟩ := hk.addr hi
    obtain ⟨_, ak, ck, _, _, _, _, hv⟩ := hk.cells hi
    exact ih u hu hv hun
def NameLoop (w9 : World) (bm : Nat) (h : List Int) (gk : Nat) (s10 : Value) (wr : World) : Prop :=
  ∃ (i : Nat) (f : Int → Option Value), s10 = .int .i64 i ∧ i + gk = h.length ∧ VMap Tryd.prog 3 wr bm i f ∧ (∀ j n, j < i → h[j]? = some n → f n = some (.string (ltr j))) ∧ Chg [bm] w9 wr
theorem idx_at {h : List Int} (hd : h.Nodup) {i j : Nat} {n : Int} (hi : h[i]? = some n) (hj : h[j]? = some n) : i = j := by
  exact (List.getElem?_inj (List.getElem?_eq_some_iff.1 hi).1 hd).1 (hi.trans hj.symm)
theorem names_of {h : List Int} {f : Int → Option Value} (hf : ∀ j n, j < h.length → h[j]? = some n → f n = some (.string (ltr j))) : ∀ n, n ∈ h → f n = some (.string (ltr (h.idxOf n))) := fun n hn => by
  have hl := List.idxOf_lt_length_of_mem hn
  exact hf _ n hl (by rw [List.getElem?_eq_getElem hl, List.getElem_idxOf hl])
set_option maxRecDepth 100000 in
set_option maxHeartbeats 1600000 in
theorem showAll_any {t : Ty} {v : Value} {w : World} {P : Nat → Prop} (hsz : t.sz ≤ 90000) (hsh : t.short) (hv : (t.vrs []).length ≤ 26) (ht : TyIs w P t v) (hP : ∀ b, P b → b < w.heap.size) :
    Calls Tryd.prog 28 #[v] w (ShowEnd w t.text') := by
  have hwf := fun n => TyIs.num_wf (n := n) t ht
  obtain ⟨ao, cap, rfl⟩ := ht.form
  have hmm := @run_makeMap Tryd.prog
  obtain ⟨W, hW⟩ : ∃ W, W = (w.alloc (.cells #[.int .i64 t.op, .int .i64 t.num, .string t.text, .slice ao t.kids.length cap] 25)).alloc (.map #[] 0) := ⟨_, rfl⟩
  have hbW : Below w.heap.size w W := by rw [hW]; exact ((Below.refl _ _).alloc (Nat.le_refl _) _).alloc (by simp) _
  have hsW : W.heap.size = w.heap.size + 2 := by rw [hW]; simp
  have hzW : W.heap[w.heap.size]? = some (.cells #[.int .i64 t.op, .int .i64 t.num, .string t.text, .slice ao t.kids.length cap] 25 (0, 0)) := by rw [hW]; exact (heap_alloc_old _ _ (by simp)).trans (heap_alloc_new w _)
  have hmW : VMap Tryd.prog 3 W (w.heap.size + 1) 0 (fun _ => none) := by
    rw [hW]
    have := VMap.made (P := Tryd.prog) (K := 3) (w.alloc (.cells #[.int .i64 t.op, .int .i64 t.num, .string t.text, .slice ao t.kids.length cap] 25))
    simp only [World.size_alloc] at this
    exact this
  have HV := Lib.hid (vars_any t _ W P (by omega) (ht.below hbW hP) (fun b hb => Nat.lt_of_lt_of_le (hP b hb) hbW.size))
  have HT := Lib.hid ht
  have HP := Lib.hid hP
  have HWF := Lib.hid hwf
  have HBW := Lib.hid hbW
  have HSW := Lib.hid hsW
  have HZW := Lib.hid hzW
  have HMW := Lib.hid hmW
  have HSH := Lib.hid hsh
  have HSZ := Lib.hid hsz
  have HND : Hid ((t.vrs []).Nodup) := Ty.vrs_nodup t [] (by simp)
  have HHAS : Hid (∀ n, n ∈ t.vrs [] ↔ t.has n = true) := fun n => by rw [Ty.vrs_mem]; simp
  have HVL : Hid ((t.vrs []).length ≤ 26) := hv
  have hW2 := Lib.hid hW
  obtain ⟨c0, c1, c2, c3, c4⟩ := hdr4_cells hzW
  clear ht hP hwf hbW hsW hzW hmW hsh hsz hv hW
  unfold tval at HV HT
  unfold tval Ty.text'
  unfold Ty.vars at HV
  generalize hh : t.vrs [] = h at HV HND HHAS HVL
  have HH := Lib.hid hh
  clear hh
  go_enter Tryd.func28, Tryd.ntmps28
  go_upto_region 2 with fail
  rw [← hW2.out]
  go_wp2_with (go_at_call 26; refine HV.out.mono ?_; clear HV; rintro e w9 ⟨vo, rfl, hr9, hb9⟩; obtain ⟨a9, p9, rfl, hp9, hm9⟩ := hr9.form; have R9 := Lib.hid hr9; have B9 := Lib.hid hb9; clear hr9 hb9)
  have hs9 := B9.out.size
  have hsw := HSW.out
  have HL : Hid (NameLoop w9 (w.heap.size + 1) h h.length (.int .i64 0) w9) := ⟨0, _, rfl, by omega, HMW.out.chg (below_chg B9.out) (by simp), fun j n hj => by omega, Chg.refl _ _⟩
  go_loopg [4, 5, 10] h.length (fun gk s4 s5 s10 wr => NameLoop w9 (w.heap.size + 1) h gk s10 wr)
  case atStart => exact HL.out
  case round =>
    clear HL
    obtain ⟨i, f, rfl, hik, hm, hf, hc⟩ := hrel
    have z1 : wr.heap[w.heap.size]? = some (.cells #[.int .i64 t.op, .int .i64 t.num, .string t.text, .slice ao t.kids.length cap] 25 (0, 0)) := (hc.block _ (by omega) (by simp)).trans ((B9.out.block _ (by omega)).trans HZW.out)
    have hr9 : IRow wr W.heap.size (.slice a9 h.length p9) h := ⟨R9.out.1.chg hc (fun k hk hm => by have := R9.out.2 k hk; simp at hm; omega), R9.out.2⟩
    have hrs := hc.size
    obtain ⟨d0, d1, d2, d3, d4⟩ := hdr4_cells z1
    have HM := Lib.hid hm
    have HF := Lib.hid hf
    have HC := Lib.hid hc
    clear z1 hm hf hc c0 c1 c2 c3 c4
    have g0 : (0 : Int) ≤ (i : Int) := by omega
    have hi26 : i ≤ 26 := by have := HVL.out; omega
    by_cases hlt : i < h.length
    · have g1 : (i : Int) < (h.length : Int) := by omega
      obtain ⟨n, hn⟩ : ∃ u, h[i]? = some u := ⟨_, List.getElem?_eq_getElem hlt⟩
      obtain ⟨g, rfl, hg, hcg⟩ := hr9.at hn
      have hnw : (Lit.int .i64 n).wf = true := HWF.out n ((HHAS.out n).1 (List.mem_of_getElem? hn))
      have HN := Lib.hid hn
      have HL := Lib.hid (letter_any i (by have := HVL.out; omega) wr)
      have HNW := Lib.hid hnw
      clear hr9 hn hnw
      go_wp2_with (first
        | (go_at_call 41; refine HL.out.mono ?_; clear HL; rintro e w7 ⟨rfl, hb7⟩; have B7 := Lib.hid hb7; clear hb7)
        | (at_mapUpdate; refine wpList_update_vmap rfl _ _ _ 78 rfl Tryd.underlying3 Tryd.underlying78 (VMap.chg HM.out (below_chg B7.out) (by simp)) (by unfold maxLen; omega) rfl n (.string (ltr i)) rfl rfl HNW.out ?_; intro w8 hm8 hc8))
      go_roundg (gk - 1)
      case measure => omega
      case rel =>
        refine ⟨i + 1, _, by go_num, by omega, hm8, fun j m hj hm => ?_, (HC.out.trans (below_chg B7.out) (fun k hk => by simp at hk)).trans hc8 (fun k hk => .inl hk)⟩
        by_cases e : m = n
        · subst e
          rw [if_pos rfl, idx_at HND.out hm HN.out]
        · rw [if_neg e]
          refine HF.out j m ?_ hm
          rcases Nat.lt_or_ge j i with h1 | h1
          · exact h1
          · have : j = i := by omega
            subst this
            exact absurd (Option.some.inj (hm.symm.trans HN.out)) e
    · obtain rfl : i = h.length := by omega
      have hnm : Names wr (w.heap.size + 1) h := ⟨_, f, HM.out, names_of HF.out⟩
      have hBc : Below w.heap.size w wr := (HBW.out.trans (B9.out.mono HBW.out.size)).trans (HC.out.below (by omega) (fun k hk => by simp at hk; omega))
      have HCALL := Lib.hid (show_walk t.sz t _ wr P (Nat.le_refl _) (by have := HSZ.out; omega) HSH.out (fun n hn => (HHAS.out n).2 hn) (HT.out.below hBc HP.out) (fun b hb => Nat.lt_of_lt_of_le (HP.out b hb) hBc.size) hnm)
      have HBC := Lib.hid hBc
      clear hr9 hnm hBc
      unfold ShowEnd at HCALL
      generalize hs9' : Ty.shw h t = s9 at HCALL
      have HS9 := Lib.hid hs9'
      clear hs9'
      go_wp2_with (go_at_call 42; refine HCALL.out.mono ?_; clear HCALL; rintro e w7 ⟨rfl, hb7⟩; have B7 := Lib.hid hb7; clear hb7)
      refine bodyPost_ret (v := .string s9) (by simp [results, Tryd.results28, go_sem]) rfl ?_
      exact ⟨by rw [HS9.out], HBC.out.trans (B7.out.mono HBC.out.size)⟩
end Go.Proofs.YthchkekegkhanaaDoor
