/- The text of a type: plain. -/
import Derived.Test.YthchkekegkhanaaDoorKdSwap
import Derived.Test.YthchkekegkhanaaDoorKdLetter
namespace Go.Proofs.YthchkekegkhanaaDoor
open Go.RowKit Go.Maps
set_option linter.unusedVariables false

namespace Ty
mutual
/-- The text of a type whose variables are named by their places in h. -/
def shw (h : List Int) : Ty → ByteArray
  | var n => ltr (h.idxOf n)
  | con c l => if l.isEmpty then c else (⟨#[40]⟩ ++ c) ++ shws h l ++ ⟨#[41]⟩
def shws (h : List Int) : List Ty → ByteArray
  | [] => ⟨#[]⟩
  | t :: l => (⟨#[32]⟩ ++ shw h t) ++ shws h l
end
mutual
/-- No name is longer than 100 bytes. -/
def short : Ty → Prop
  | var _ => True
  | con c l => c.size ≤ 100 ∧ shorts l
def shorts : List Ty → Prop
  | [] => True
  | t :: l => short t ∧ shorts l
end
mutual
theorem shw_size (h : List Int) : ∀ t : Ty, short t → (shw h t).size + 1 ≤ 104 * t.sz
  | var n, _ => by rw [shw, sz]; show 2 + 1 ≤ _; omega
  | con c l, hs => by
    rw [short] at hs
    have := shws_size h l hs.2
    rw [shw, sz]
    split
    · omega
    · simp only [ByteArray.size_append]
      show 1 + c.size + (shws h l).size + 1 + 1 ≤ _
      omega
theorem shws_size (h : List Int) : ∀ l : List Ty, shorts l → (shws h l).size ≤ 104 * szs l
  | [], _ => by rw [shws, szs]; show 0 ≤ _; omega
  | t :: l, hs => by
    rw [shorts] at hs
    have h1 := shw_size h t hs.1
    have h2 := shws_size h l hs.2
    rw [shws, szs]
    simp only [ByteArray.size_append]
    show 1 + (shw h t).size + (shws h l).size ≤ _
    omega
end
end Ty
end Go.Proofs.YthchkekegkhanaaDoor
/- The reference's show. -/
namespace Go.Proofs.YthchkekegkhanaaDoor
open Go.RowKit Go.Maps
set_option linter.unusedVariables false

def ShowEnd (w : World) (s : ByteArray) (e : Ending) (w' : World) : Prop := e = .returned (.string s) ∧ Below w.heap.size w w'
def RShowLoop (n : Int) (W : World) (h : List Int) (gk : Nat) (s5 : Value) (wr : World) : Prop :=
  ∃ i : Nat, s5 = .int .i64 i ∧ i + gk = h.length ∧ n ∉ h.take i ∧ Below W.heap.size W wr
theorem idx_here {n : Int} {h : List Int} {i : Nat} (hi : h[i]? = some n) (hn : n ∉ h.take i) : h.idxOf n = i := by
  obtain ⟨hl, he⟩ := List.getElem?_eq_some_iff.1 hi
  have e : h = h.take i ++ n :: h.drop (i + 1) := by
    conv => lhs; rw [← List.take_append_drop i h, List.drop_eq_getElem_cons hl, he]
  rw [e, List.idxOf_append, if_neg hn, List.length_take]
  simp
  omega
set_option maxRecDepth 100000 in
set_option maxHeartbeats 1600000 in
theorem refShow_var (n : Int) {h : List Int} {v xv : Value} {w : World} {P : Nat → Prop} (ht : TyIs w P (.var n) v) (hr : IRow w 0 xv h) (hm : n ∈ h) (hln : h.length ≤ 26) :
    Calls Tryd.prog 43 #[v, xv] w (ShowEnd w (ltr (h.idxOf n))) := by
  obtain ⟨ao, cap, rfl, hcap, hwn, _⟩ := ht.var
  unfold maxLen at hcap
  obtain ⟨aox, capx, rfl, hcx, hcm⟩ := hr.form
  unfold maxLen at hcm
  have HR := Lib.hid hr
  have HM := Lib.hid hm
  clear ht hr hm
  go_enter Tryd.func43, Tryd.ntmps43
  go_wp2
  obtain ⟨W, hW⟩ : ∃ W, W = w.alloc (.cells #[.int .i64 0, .int .i64 n, .string ⟨#[]⟩, .slice ao 0 cap] 40) := ⟨_, rfl⟩
  have hBW : Hid (Below w.heap.size w W) := by rw [hW]; exact (Below.refl _ _).alloc (Nat.le_refl _) _
  have hZW : Hid (W.heap[w.heap.size]? = some (.cells #[.int .i64 0, .int .i64 n, .string ⟨#[]⟩, .slice ao 0 cap] 40 (0, 0))) := by rw [hW]; exact heap_alloc_new w _
  rw [← hW]
  clear hW
  go_loopg [5] h.length (fun gk s5 wr => RShowLoop n W h gk s5 wr)
  case atStart => exact ⟨0, rfl, by omega, by simp, Below.refl _ _⟩
  case round =>
    obtain ⟨i, rfl, hik, hni, hbi⟩ := hrel
    have hbw := hBW.out.size
    have zi := (hbi.block _ (lt_of_block hZW.out)).trans hZW.out
    obtain ⟨d0, d1, d2, d3, d4⟩ := hdr4_cells zi
    have HB0 : Hid (Below w.heap.size w wr) := hBW.out.trans (hbi.mono hbw)
    have HRI := Lib.hid (HR.out.below HB0.out)
    have HNI := Lib.hid hni
    have HBI := Lib.hid hbi
    have hlt : i < h.length := by
      rcases Nat.lt_or_ge i h.length with h1 | h1
      · exact h1
      · rw [List.take_of_length_le h1] at hni; exact absurd HM.out hni
    clear zi hni hbi
    have g0 : (0 : Int) ≤ (i : Int) := by omega
    have g1 : (i : Int) < (h.length : Int) := by omega
    obtain ⟨y, hy⟩ : ∃ y, h[i]? = some y := ⟨_, List.getElem?_eq_getElem hlt⟩
    obtain ⟨g, rfl, hg, hc⟩ := HRI.out.at hy
    have HY := Lib.hid hy
    clear hy hg
    by_cases hyn : y = n
    · subst hyn
      have hres : Hid (h.idxOf y = i) := idx_here HY.out HNI.out
      have HL := Lib.hid (fun W => refLetter_any i (by omega) W)
      go_wp2
      go_quiet (fail)
      go_wp2_with (go_at_call 55; refine (HL.out _).mono ?_; rintro e w5 ⟨rfl, hb5⟩; have B5 := Lib.hid hb5; clear hb5)
      refine bodyPost_ret (v := .string (ltr i)) (by simp [results, Tryd.results43, go_sem]) rfl ?_
      rw [hres.out]
      exact ⟨rfl, (below_drewN HB0.out _).trans (B5.out.mono (by have := HB0.out.size; simpa using this))⟩
    · have hyb : (y == n) = false := by simpa using hyn
      have hyc : (y != n) = true := by simp [hyb, bne]
      have HYN := Lib.hid hyn
      clear hyn
      go_wp2
      go_quiet (fail)
      go_wp2
      go_roundg (gk - 1)
      case measure => omega
      case rel =>
        refine ⟨i + 1, by go_num, by omega, fun hm => ?_, below_drewN HBI.out _⟩
        rw [take_snoc HY.out, List.mem_append, List.mem_singleton] at hm
        rcases hm with hm | hm
        · exact HNI.out hm
        · exact HYN.out hm.symm
theorem shws_snoc (h : List Int) : ∀ (l : List Ty) (t : Ty), Ty.shws h (l ++ [t]) = Ty.shws h l ++ (⟨#[32]⟩ ++ Ty.shw h t)
  | [], t => by rw [List.nil_append, Ty.shws, Ty.shws, Ty.shws]; ext1; simp
  | u :: l, t => by rw [List.cons_append, Ty.shws, shws_snoc h l t, Ty.shws]; simp only [ByteArray.append_assoc]
theorem show_join (q k : ByteArray) : (q ++ ⟨#[32]⟩) ++ k = q ++ (⟨#[32]⟩ ++ k) := ByteArray.append_assoc
theorem shorts_mem {t : Ty} : ∀ {l : List Ty}, Ty.shorts l → t ∈ l → t.short
  | [], _, h => by cases h
  | u :: l, hs, h => by
    rw [Ty.shorts] at hs
    rcases List.mem_cons.1 h with rfl | h
    · exact hs.1
    · exact shorts_mem hs.2 h
theorem hass_of {n : Int} {t : Ty} (ht : Ty.has n t = true) : ∀ {l : List Ty}, t ∈ l → Ty.hass n l = true
  | [], h => by cases h
  | u :: l, h => by
    rw [Ty.hass]
    rcases List.mem_cons.1 h with rfl | h
    · rw [ht]; rfl
    · rw [hass_of ht h]; simp
def RShowKids (W : World) (h : List Int) (c : ByteArray) (l : List Ty) (gk : Nat) (s6 s7 : Value) (wr : World) : Prop :=
  ∃ (i : Nat) (q : ByteArray), s7 = .int .i64 i ∧ i + gk = l.length ∧ s6 = .string q ∧ q = (⟨#[40]⟩ ++ c) ++ Ty.shws h (l.take i) ∧ q.size ≤ 101 + 104 * Ty.szs (l.take i) ∧ Below W.heap.size W wr
theorem szs_take : ∀ (l : List Ty) (i : Nat), Ty.szs (l.take i) ≤ Ty.szs l
  | [], i => by simp
  | t :: l, 0 => by rw [List.take_zero, Ty.szs]; exact Nat.zero_le _
  | t :: l, i + 1 => by rw [List.take_succ_cons, Ty.szs, Ty.szs]; have := szs_take l i; omega
theorem szs_snoc : ∀ (l : List Ty) (t : Ty), Ty.szs (l ++ [t]) = Ty.szs l + t.sz
  | [], t => by rw [List.nil_append, Ty.szs, Ty.szs, Ty.szs]; omega
  | u :: l, t => by rw [List.cons_append, Ty.szs, szs_snoc l t, Ty.szs]; omega
set_option maxRecDepth 100000 in
set_option maxHeartbeats 1600000 in
theorem refShow_walk {h : List Int} {xv : Value} (hln : h.length ≤ 26) (k : Nat) : ∀ (t : Ty) (v : Value) (w : World) (P : Nat → Prop), t.sz ≤ k → t.sz ≤ 100000 → t.short → (∀ n, t.has n = true → n ∈ h) → TyIs w P t v → (∀ b, P b → b < w.heap.size) → IRow w 0 xv h →
    Calls Tryd.prog 43 #[v, xv] w (ShowEnd w (t.shw h)) := by
  induction k with
  | zero => intro t v w P hk; have := t.sz_pos; omega
  | succ k ih =>
    intro t v w P hk hsz hsh hin ht hP hr
    cases t with
    | var n => rw [Ty.shw]; exact refShow_var n ht hr (hin n (by rw [Ty.has]; simp)) hln
    | con c l =>
      obtain ⟨ao, cap, rfl, hle, hmx, hcz, _, hkl⟩ := ht.con
      unfold maxLen at hmx
      rw [Ty.short] at hsh
      obtain ⟨hc100, hshl⟩ := hsh
      have HR := Lib.hid hr
      have HKL := Lib.hid hkl
      have HP := Lib.hid hP
      have HSH := Lib.hid hshl
      have HIN : Hid (∀ t ∈ l, ∀ n, t.has n = true → n ∈ h) := fun t ht n hn => hin n (by rw [Ty.has]; exact hass_of hn ht)
      have HKS : Hid (∀ t ∈ l, t.sz ≤ k ∧ t.sz ≤ 100000) := fun t ht => by
        have := Ty.szs_mem ht
        rw [Ty.sz] at hk hsz
        omega
      have hzl : Hid (Ty.szs l ≤ 100000) := by rw [Ty.sz] at hsz; show _ ≤ _; omega
      clear hr hkl hP hshl hin ht hk hsz hcz
      by_cases h0 : l.length = 0
      · have hl0 : l = [] := List.length_eq_zero_iff.1 h0
        subst hl0
        go_enter Tryd.func43, Tryd.ntmps43
        go_wp2
        refine bodyPost_ret (v := .string c) (by simp [results, Tryd.results43, go_sem]) rfl ?_
        exact ⟨by rw [Ty.shw]; rfl, (Below.refl _ _).alloc (Nat.le_refl _) _⟩
      · have hpos : 0 < l.length := by omega
        have hne : ((l.length : Int) == 0) = false := by simp; intro e; rw [e] at hpos; simp at hpos
        have hov : ¬ 9223372036854775807 < 1 + c.size := by omega
        clear h0 hpos
        go_enter Tryd.func43, Tryd.ntmps43
        go_wp2
        obtain ⟨W, hW⟩ : ∃ W, W = w.alloc (.cells #[.int .i64 1, .int .i64 0, .string c, .slice ao l.length cap] 40) := ⟨_, rfl⟩
        have hBW : Hid (Below w.heap.size w W) := by rw [hW]; exact (Below.refl _ _).alloc (Nat.le_refl _) _
        have hZW : Hid (W.heap[w.heap.size]? = some (.cells #[.int .i64 1, .int .i64 0, .string c, .slice ao l.length cap] 40 (0, 0))) := by rw [hW]; exact heap_alloc_new w _
        rw [← hW]
        clear hW
        have HL : Hid (RShowKids W h c l l.length (.string (⟨#[40]⟩ ++ c)) (.int .i64 0) W) := ⟨0, _, rfl, by omega, rfl, by rw [List.take_zero, Ty.shws]; ext1; simp, by rw [List.take_zero, Ty.szs, ByteArray.size_append]; show 1 + c.size ≤ _; omega, Below.refl _ _⟩
        go_loopg [6, 7] l.length (fun gk s6 s7 wr => RShowKids W h c l gk s6 s7 wr)
        case atStart => exact HL.out
        case round =>
          clear HL
          obtain ⟨i, q, rfl, hik, rfl, hq, hqs, hbi⟩ := hrel
          have hbw := hBW.out.size
          have hbis := hbi.size
          have zi := (hbi.block _ (lt_of_block hZW.out)).trans hZW.out
          obtain ⟨d0, d1, d2, d3, d4⟩ := hdr4_cells zi
          have HB0 : Hid (Below w.heap.size w wr) := hBW.out.trans (hbi.mono hbw)
          have HQ := Lib.hid hq
          have HQS := Lib.hid hqs
          have HBI := Lib.hid hbi
          have hqb : q.size ≤ 20000000 := by have := szs_take l i; have := hzl.out; omega
          clear zi hq hqs hbi
          have g0 : (0 : Int) ≤ (i : Int) := by omega
          by_cases hlt : i < l.length
          · have g1 : (i : Int) < (l.length : Int) := by omega
            obtain ⟨tk, htk⟩ : ∃ u, l[i]? = some u := ⟨_, List.getElem?_eq_getElem hlt⟩
            have hmem := List.mem_of_getElem? htk
            obtain ⟨bb, oo, rfl, hbb⟩ := HKL.out.addr htk
            obtain ⟨_, ak, ck, p0, p1, p2, p3, hvk⟩ := HKL.out.cells htk
            rw [Nat.zero_add] at p0 p1 p2 p3
            have hbn := HP.out _ hbb
            replace p0 := (HB0.out.cell (p := ⟨bb, oo + i * 4, none⟩) hbn).trans p0
            replace p1 := (HB0.out.cell (p := ⟨bb, oo + i * 4 + 1, none⟩) hbn).trans p1
            replace p2 := (HB0.out.cell (p := ⟨bb, oo + i * 4 + 2, none⟩) hbn).trans p2
            replace p3 := (HB0.out.cell (p := ⟨bb, oo + i * 4 + 3, none⟩) hbn).trans p3
            have hks := Ty.shw_size h tk (shorts_mem HSH.out hmem)
            have hkz := (HKS.out tk hmem).2
            have HCALL := Lib.hid (ih tk _ wr P (HKS.out tk hmem).1 hkz (shorts_mem HSH.out hmem) (HIN.out tk hmem) (hvk.below HB0.out HP.out) (fun b hb => Nat.lt_of_lt_of_le (HP.out b hb) HB0.out.size) (HR.out.below HB0.out))
            have HS9 : Hid (Ty.shws h (l.take (i + 1)) = Ty.shws h (l.take i) ++ (⟨#[32]⟩ ++ Ty.shw h tk)) := by show _ = _; rw [take_snoc htk, shws_snoc]
            have HZ9 : Hid (Ty.szs (l.take (i + 1)) = Ty.szs (l.take i) + tk.sz) := by show _ = _; rw [take_snoc htk, szs_snoc]
            clear hvk htk hbn hbb hmem
            unfold tval ShowEnd at HCALL
            generalize Ty.shw h tk = s9 at HCALL HS9 hks
            have ho1 : ¬ 9223372036854775807 < q.size + 1 := by omega
            have ho2 : ¬ 9223372036854775807 < q.size + 1 + s9.size := by omega
            go_wp2_with (go_at_call 43; refine HCALL.out.mono ?_; clear HCALL; rintro e w9 ⟨rfl, hb9⟩; have B9 := Lib.hid hb9; clear hb9)
            go_roundg (gk - 1)
            case measure => omega
            case rel => exact ⟨i + 1, (q ++ ⟨#[32]⟩) ++ s9, by go_num, by omega, rfl, by rw [show_join, HS9.out, HQ.out]; simp only [ByteArray.append_assoc], by rw [HZ9.out, ByteArray.size_append, ByteArray.size_append]; show q.size + 1 + s9.size ≤ _; have := HQS.out; omega, HBI.out.trans (B9.out.mono hbis)⟩
          · obtain rfl : i = l.length := by omega
            rw [List.take_length] at HQ
            have ho1 : ¬ 9223372036854775807 < q.size + 1 := by omega
            have hlb : Hid (l.isEmpty = false) := by show _ = _; cases l with | nil => simp at hne | cons a b => rfl
            go_wp2
            refine bodyPost_ret (v := .string (q ++ ⟨#[41]⟩)) (by simp [results, Tryd.results43, go_sem]) rfl ?_
            refine ⟨?_, HB0.out⟩
            rw [Ty.shw, hlb.out, HQ.out]
            simp
end Go.Proofs.YthchkekegkhanaaDoor
/- The variables of a type: plain. -/
namespace Go.Proofs.YthchkekegkhanaaDoor
open Go.RowKit Go.Maps
set_option linter.unusedVariables false

namespace Ty
mutual
theorem vrs_mem (n : Int) : ∀ (t : Ty) (h : List Int), n ∈ vrs t h ↔ n ∈ h ∨ has n t = true
  | var m, h => by
    rw [vrs, has]
    split
    · constructor
      · exact .inl
      · rintro (e | e)
        · exact e
        · have : m = n := by simpa using e
          subst this; assumption
    · rw [List.mem_append, List.mem_singleton]
      constructor
      · rintro (e | e)
        · exact .inl e
        · exact .inr (by subst e; simp)
      · rintro (e | e)
        · exact .inl e
        · have : m = n := by simpa using e
          exact .inr this.symm
  | con c l, h => by rw [vrs, has]; exact vrss_mem n l h
theorem vrss_mem (n : Int) : ∀ (l : List Ty) (h : List Int), n ∈ vrss l h ↔ n ∈ h ∨ hass n l = true
  | [], h => by rw [vrss, hass]; simp
  | t :: l, h => by
    rw [vrss, hass, vrss_mem n l, vrs_mem n t, Bool.or_eq_true, or_assoc]
end
mutual
theorem vrs_nodup : ∀ (t : Ty) (h : List Int), h.Nodup → (vrs t h).Nodup
  | var m, h, hn => by
    rw [vrs]
    split
    · exact hn
    · rw [List.nodup_append]
      refine ⟨hn, by simp, fun a ha b hb => ?_⟩
      rw [List.mem_singleton] at hb
      rintro rfl
      subst hb
      contradiction
  | con c l, h, hn => by rw [vrs]; exact vrss_nodup l h hn
theorem vrss_nodup : ∀ (l : List Ty) (h : List Int), h.Nodup → (vrss l h).Nodup
  | [], h, hn => by rw [vrss]; exact hn
  | t :: l, h, hn => by rw [vrss]; exact vrss_nodup l _ (vrs_nodup t h hn)
end
end Ty
end Go.Proofs.YthchkekegkhanaaDoor
/- The reference's Show. -/
namespace Go.Proofs.YthchkekegkhanaaDoor
open Go.RowKit Go.Maps
set_option linter.unusedVariables false

/-- The text of a type, its variables named as they come. -/
def Ty.text' (t : Ty) : ByteArray := t.shw (t.vrs [])
set_option maxRecDepth 100000 in
theorem refShowAll_any {t : Ty} {v : Value} {w : World} {P : Nat → Prop} (hsz : t.sz ≤ 90000) (hsh : t.short) (hv : (t.vrs []).length ≤ 26) (ht : TyIs w P t v) (hP : ∀ b, P b → b < w.heap.size) :
    Calls Tryd.prog 29 #[v] w (ShowEnd w t.text') := by
  obtain ⟨ao, cap, rfl⟩ := ht.form
  have hb1 : Below w.heap.size w (w.alloc (.cells #[.int .i64 t.op, .int .i64 t.num, .string t.text, .slice ao t.kids.length cap] 40)).drew := ((Below.refl _ _).alloc (Nat.le_refl _) _).drew
  have HB1 := Lib.hid hb1
  have HV := Lib.hid (refVars_walk _ t _ (.slice none 0 0) _ [] P (Nat.le_refl _) (ht.below hb1 hP) (fun b hb => Nat.lt_of_lt_of_le (hP b hb) hb1.size) (IRow.nil _ _) (by simp; omega))
  have HS : Hid (∀ (W : World) (x : Value), Below (w.alloc (.cells #[.int .i64 t.op, .int .i64 t.num, .string t.text, .slice ao t.kids.length cap] 40)).drew.heap.size (w.alloc (.cells #[.int .i64 t.op, .int .i64 t.num, .string t.text, .slice ao t.kids.length cap] 40)).drew W → IRow W 0 x (t.vrs []) → Calls Tryd.prog 43 #[tval t ao cap, x] W (ShowEnd W (t.shw (t.vrs [])))) := fun W x hW hx =>
    refShow_walk hv _ t _ W P (Nat.le_refl _) (by omega) hsh (fun n hn => (Ty.vrs_mem n t []).2 (.inr hn)) (ht.below (hb1.trans (hW.mono hb1.size)) hP) (fun b hb => by have := hP b hb; have := hb1.size; have := hW.size; omega) hx
  clear ht hb1 hP
  unfold tval at HV HS
  unfold tval Ty.text'
  unfold ShowEnd at HS ⊢
  have Z0 := Lib.hid (heap_alloc_new w (.cells #[.int .i64 t.op, .int .i64 t.num, .string t.text, .slice ao t.kids.length cap] 40))
  obtain ⟨c0, c1, c2, c3, c4⟩ := hdr4_cells Z0.out
  go_enter Tryd.func29, Tryd.ntmps29
  go_wp2
  go_region_law (first
    | (refine step_callw (w := (w.alloc (.cells #[.int .i64 t.op, .int .i64 t.num, .string t.text, .slice ao t.kids.length cap] 40)).drew) (by rfl) 27 #[.agg #[.int .i64 t.op, .int .i64 t.num, .string t.text, .slice ao t.kids.length cap], .slice none 0 0] ?_ HV.out ?_; go_simp; rintro e w5 ⟨x5, rfl, hr5, hb5⟩; refine ⟨_, rfl, ?_⟩; have z5 := (hb5.block w.heap.size (lt_of_block Z0.out)).trans Z0.out; obtain ⟨k0, k1, k2, k3, k4⟩ := hdr4_cells z5; have R5 := Lib.hid hr5; have B5 := Lib.hid hb5; clear hr5 hb5 z5)
    | (refine step_callw (w := w5) (by rfl) 43 #[.agg #[.int .i64 t.op, .int .i64 t.num, .string t.text, .slice ao t.kids.length cap], x5] ?_ (HS.out w5 x5 B5.out R5.out) ?_; go_simp; rintro e w9 ⟨rfl, hb9⟩; refine ⟨_, rfl, ?_⟩; have B9 := Lib.hid hb9; clear hb9))
  all_goals go_wp2
  all_goals
    refine bodyPost_ret (v := .string (t.shw (t.vrs []))) (by simp [results, Tryd.results29, go_sem]) rfl ?_
    exact ⟨rfl, (HB1.out.trans (B5.out.mono HB1.out.size)).trans (B9.out.mono (by have := HB1.out.size; have := B5.out.size; omega))⟩
end Go.Proofs.YthchkekegkhanaaDoor
/- The law's none. -/
namespace Go.Proofs.YthchkekegkhanaaDoor
open Go.RowKit Go.Maps
set_option linter.unusedVariables false
set_option maxRecDepth 100000 in
theorem none_any (w : World) : Calls Tryd.prog 9 #[] w fun e w' => e = .returned (.pointer none) ∧ Below w.heap.size w w' := by
  go_enter Tryd.func9, Tryd.ntmps9
  go_wp2
  refine bodyPost_ret (v := .pointer none) (by simp [results, Tryd.results9, go_sem]) rfl ?_
  exact ⟨rfl, Below.refl _ _⟩
end Go.Proofs.YthchkekegkhanaaDoor
