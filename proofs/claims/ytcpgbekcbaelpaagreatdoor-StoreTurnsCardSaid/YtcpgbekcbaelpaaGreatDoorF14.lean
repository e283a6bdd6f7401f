/- Texts of the proof, in build order: ValRight, BytesR, Encode, Kids, Tame, StPl, StCrc, StSum, StRd, StLg, StDm, StIv, StOp, StAp, StKp. -/
import Derived.Test.YtcpgbekcbaelpaaGreatDoorF13
import Derived.Deep.RegionLaw
import Derived.Test.YtcpgbekcbaelpaaGreatDoorF12
import Derived.Test.YtcpgbekcbaelpaaGreatDoorF10
set_option linter.unusedVariables false
set_option linter.unusedSimpArgs false
set_option linter.unusedSectionVars false
/- The program's right: a value in form, all the way down. -/
namespace Go.Proofs.YtcpgbekcbaelpaaGreatDoor
open Go.RowKit Go.Maps Wr
set_option linter.unusedVariables false

def anyWrong (l : List VT) (d : Int) : Bool := !VT.rights l d
def WrongFn (lb : Array Value) (g : FuncId) (l : List VT) (d : Int) (w : World) : Prop :=
  ∀ (W : World) (i : Nat) (t : VT) (ao : Option Addr) (cap : Nat), Below w.heap.size w W → l[i]? = some t → ValIs w (fun b => b < w.heap.size) t (vval t ao cap) →
    Calls Tryz.prog g (#[vval t ao cap] ++ lb) W fun e w' => e = .returned (.bool (!t.right d)) ∧ Below w.heap.size w w'

def IdxLoop (w : World) (l : List VT) (d : Int) (k : Nat) (s8 : Value) (wr : World) : Prop :=
  ∃ i : Nat, s8 = .int .i64 i ∧ i + k = l.length ∧ VT.rights l d = VT.rights (l.drop i) d ∧ Below w.heap.size w wr

set_option maxRecDepth 100000 in
set_option maxHeartbeats 1600000 in
theorem idx_walk (g : FuncId) (lb : Array Value) (eg : ∀ args w, (callFunc g args).run Tryz.prog w = .ok (.enter g args) w) (l : List VT) (d : Int) (ao : Option Addr) (cap : Nat) (w : World) (h1 : l.length ≤ cap) (h2 : cap ≤ maxLen)
    (hk : KidsAt w (fun b => b < w.heap.size) l ao 0) (hp : WrongFn lb g l d w) :
    Calls Tryz.prog 203 #[.slice ao l.length cap, .func (.func g) #[] lb] w fun e w' => (∃ i : Int, e = .returned (.int .i64 i) ∧ decide (0 ≤ i) = anyWrong l d) ∧ Below w.heap.size w w' := by
  unfold maxLen at h2
  have HK := Lib.hid hk
  have HP := Lib.hid hp
  clear hk hp
  go_enter Tryz.func203, Tryz.ntmps203
  go_wp2
  have HL : Hid (IdxLoop w l d l.length (.int .i64 0) w) := ⟨0, rfl, by omega, rfl, Below.refl _ _⟩
  go_loopg [5, 8] l.length (fun k _ s8 wr => IdxLoop w l d k s8 wr)
  case atStart => exact HL.out
  case round =>
    clear HL
    obtain ⟨i, rfl, hik, hr, hb⟩ := hrel
    have HB := Lib.hid hb
    have HR := Lib.hid hr
    clear hb hr
    by_cases hlt : i < l.length
    · obtain ⟨tk, htk⟩ : ∃ u, l[i]? = some u := ⟨_, List.getElem?_eq_getElem hlt⟩
      obtain ⟨bb, oo, _, _, _, _, rfl, hbb, _⟩ := HK.out.get htk
      obtain ⟨_, aok, capk, p0, p1, p2, p3, hvk⟩ := HK.out.cells htk
      rw [Nat.zero_add] at p0 p1 p2 p3
      have cc : ∀ j, wr.cell? ⟨bb, j, none⟩ = w.cell? ⟨bb, j, none⟩ := fun j => HB.out.cell (p := ⟨bb, j, none⟩) hbb
      replace p0 := (cc _).trans p0
      replace p1 := (cc _).trans p1
      replace p2 := (cc _).trans p2
      replace p3 := (cc _).trans p3
      have HC0 := HP.out wr i tk aok capk HB.out htk hvk
      unfold vval at HC0
      have HC := Lib.hid HC0
      clear HC0
      have hdrop := Lib.hid (VT.drop_kid htk)
      have g1' : (i : Int) < (l.length : Int) := by omega
      have hi0 : (0 : Int) ≤ (i : Int) := by omega
      clear hvk htk cc
      have HQ : Hid (VT.rights (tk :: l.drop (i + 1)) d = (tk.right d && VT.rights (l.drop (i + 1)) d)) := VT.rights_cons _ _ _
      generalize tk.right d = q at HC HQ
      generalize tk.kind = x0 at p0 HC
      generalize tk.num = x1 at p1 HC
      generalize tk.text = x2 at p2 HC
      generalize tk.kids.length = x3 at p3 HC
      cases q
      · go_wp2_with (fail)
        refine HC.out.mono ?_
        rintro e w5 ⟨rfl, hb5⟩
        have H5 := Lib.hid hb5
        clear hb5
        go_wp2
        go_ret
        refine ⟨⟨i, rfl, ?_⟩, H5.out⟩
        unfold anyWrong
        rw [HR.out, hdrop.out, HQ.out]
        simp
      · go_wp2_with (fail)
        refine HC.out.mono ?_
        rintro e w5 ⟨rfl, hb5⟩
        have H5 := Lib.hid hb5
        clear hb5
        go_wp2
        go_roundg (gk - 1)
        case measure => omega
        case rel => exact ⟨i + 1, by go_num, by omega, by rw [HR.out, hdrop.out, HQ.out]; simp, H5.out⟩
    · obtain rfl : i = l.length := by omega
      go_wp2
      go_ret
      refine ⟨⟨-1, rfl, ?_⟩, HB.out⟩
      unfold anyWrong
      rw [HR.out, List.drop_length, VT.rights_nil]
      rfl

set_option maxRecDepth 100000 in
theorem contains_walk (g : FuncId) (lb : Array Value) (eg : ∀ args w, (callFunc g args).run Tryz.prog w = .ok (.enter g args) w) (l : List VT) (d : Int) (ao : Option Addr) (cap : Nat) (w : World) (h1 : l.length ≤ cap) (h2 : cap ≤ maxLen)
    (hk : KidsAt w (fun b => b < w.heap.size) l ao 0) (hp : WrongFn lb g l d w) :
    Calls Tryz.prog 172 #[.slice ao l.length cap, .func (.func g) #[] lb] w fun e w' => e = .returned (.bool (anyWrong l d)) ∧ Below w.heap.size w w' := by
  have HI := Lib.hid (idx_walk g lb eg l d ao cap w h1 h2 hk hp)
  clear hk hp
  unfold maxLen at h2
  go_enter Tryz.func172, Tryz.ntmps172
  go_wp2_with ((go_at_call 203; refine HI.out.mono ?_; rintro e w5 ⟨⟨i, rfl, hi⟩, hb5⟩))
  go_ret
  exact ⟨rfl, hb5⟩

theorem cells_below2 {w w5 : World} {a b c d e : Value} {t t2 : TypeId} (h : Below ((w.alloc (.cells #[a, b, c, d] t)).alloc (.cells #[e] t2)).heap.size ((w.alloc (.cells #[a, b, c, d] t)).alloc (.cells #[e] t2)) w5) :
    w5.cell? ⟨w.heap.size, 3, none⟩ = some d ∧ w5.cell? ⟨w.heap.size + 1, 0, none⟩ = some e ∧ Below w.heap.size w w5 := by
  have hb0 := (h.block w.heap.size (by simp; omega)).trans ((heap_alloc_old _ _ (by simp)).trans (heap_alloc_new w _))
  have hs : (w.alloc (.cells #[a, b, c, d] t)).heap.size = w.heap.size + 1 := by simp
  have hn : ((w.alloc (.cells #[a, b, c, d] t)).alloc (.cells #[e] t2)).heap[w.heap.size + 1]? = some (.cells #[e] t2 (0, 0)) := by rw [← hs]; exact heap_alloc_new _ _
  have hb1 := (h.block (w.heap.size + 1) (by simp)).trans hn
  refine ⟨?_, ?_, (((Below.refl _ _).alloc (Nat.le_refl _) _).alloc (by simp) _).trans (h.mono (by simp; omega))⟩
  · simp [World.cell?, hb0]
  · simp [World.cell?, hb1]
theorem lt_of_cell {w : World} {q j : Nat} {v : Value} (h : w.cell? ⟨q, j, none⟩ = some v) : q < w.heap.size := by
  rcases Nat.lt_or_ge q w.heap.size with hlt | hge
  · exact hlt
  · unfold World.cell? at h; rw [Array.getElem?_eq_none hge] at h; cases h
theorem new_ne' (w : World) {q j : Nat} {v : Value} (h : w.cell? ⟨q, j, none⟩ = some v) (o : Obj) : (w.alloc o).cell? ⟨q, j, none⟩ = some v :=
  (((Below.refl w.heap.size w).alloc (Nat.le_refl _) o).cell (p := ⟨q, j, none⟩) (lt_of_cell h)).trans h
set_option maxRecDepth 100000 in
theorem wrong_fn (t : VT) (ao : Option Addr) (cap q : Nat) (d : Int) (w : World) (hc : w.cell? ⟨q, 0, none⟩ = some (.int .i64 d)) (h0 : 0 ≤ d) (h1 : d ≤ 200)
    (HR : Hid (∀ W, Below w.heap.size w W → Calls Tryz.prog 139 #[vval t ao cap, .int .i64 (d + 1)] W fun e w' => e = .returned (.bool (t.right (d + 1))) ∧ Below W.heap.size W w')) :
    Calls Tryz.prog 173 #[vval t ao cap, .pointer (some ⟨q, 0, none⟩)] w fun e w' => e = .returned (.bool (!t.right (d + 1))) ∧ Below w.heap.size w w' := by
  unfold vval at *
  have hq : Hid (q < w.heap.size) := lt_of_cell hc
  have hc2 := fun o => new_ne' w hc o
  generalize t.right (d + 1) = r at *
  generalize t.kind = x0 at *
  generalize t.num = x1 at *
  generalize t.text = x2 at *
  generalize t.kids.length = x3 at *
  go_enter Tryz.func173, Tryz.ntmps173
  go_wp2_with ((go_at_call 139; refine (HR.out _ ((Below.refl _ _).alloc (Nat.le_refl _) _)).mono ?_; rintro e w5 ⟨rfl, hb5⟩; have H5 := Lib.hid hb5; clear hb5))
  go_ret
  exact ⟨rfl, ((Below.refl _ _).alloc (Nat.le_refl _) _).trans (H5.out.mono (by simp))⟩

set_option maxRecDepth 100000 in
set_option maxHeartbeats 1600000 in
theorem right_walk (k : Nat) : ∀ (t : VT) (v : Value) (w : World) (P : Nat → Prop) (d : Int), t.sz ≤ k → ValIs w P t v → (∀ b, P b → b < w.heap.size) → 0 ≤ d → d ≤ 201 →
    Calls Tryz.prog 139 #[v, .int .i64 d] w fun e w' => e = .returned (.bool (t.right d)) ∧ Below w.heap.size w w' := by
  induction k with
  | zero => intro t v w P d hk; cases t; simp [VT.sz] at hk
  | succ k ih =>
    intro t v w P d hk ht hP hd0 hd1
    cases t with
    | node ka na sa la =>
    unfold ValIs at ht
    obtain ⟨ao, cap, rfl, a1, a2, a3, a4, a5, a6, a7⟩ := ht
    have HF := Lib.hid (fun w => valFits_any ka na sa ao la.length cap w a3 a1 a2)
    have A2 := Lib.hid a2
    have IH := Lib.hid ih
    clear ih
    unfold maxLen at a2 a3
    by_cases h200 : d ≤ 200
    · cases hf : fitsB ka na sa la.length
      · rw [hf] at HF
        have hr : (VT.node ka na sa la).right d = false := by rw [VT.right_node, hf]; simp
        rw [hr]
        go_enter Tryz.func139, Tryz.ntmps139
        go_wp2_with ((go_at_call 171; refine (HF.out _).mono ?_; rintro e w5 ⟨rfl, hb5⟩))
        go_ret
        exact ⟨rfl, (((Below.refl _ _).alloc (Nat.le_refl _) _).alloc (by simp) _).trans (hb5.mono (by simp; omega))⟩
      · rw [hf] at HF
        have hr : Hid ((VT.node ka na sa la).right d = !anyWrong la (d + 1)) := by show _ = _; rw [VT.right_node, hf]; simp [h200, anyWrong]
        go_enter Tryz.func139, Tryz.ntmps139
        have HW : Hid (∀ w5 : World, Below w.heap.size w w5 → w5.cell? ⟨w.heap.size + 1, 0, none⟩ = some (.int .i64 d) → Calls Tryz.prog 172 #[.slice ao la.length cap, .func (.func 173) #[] #[.pointer (some ⟨w.heap.size + 1, 0, none⟩)]] w5 fun e w' => e = .returned (.bool (anyWrong la (d + 1))) ∧ Below w5.heap.size w5 w') := by
          intro w5 hb5 hcd
          refine contains_walk _ _ (fun _ _ => by rfl) la (d + 1) ao cap w5 a1 A2.out (a7.keep (fun b hb => Nat.lt_of_lt_of_le (hP b hb) hb5.size) (fun p hp => hb5.cell (hP p.block hp))) ?_
          intro W i t ao' cap' hW hi hv
          have hsz : t.sz ≤ k := by
            have h5 : t.sz < (VT.node ka na sa la).sz := VT.sz_kid (t := VT.node ka na sa la) hi
            omega
          have hlt := lt_of_cell hcd
          refine (wrong_fn t ao' cap' (w.heap.size + 1) d W ((hW.cell (p := ⟨w.heap.size + 1, 0, none⟩) hlt).trans hcd) hd0 h200 ?_).mono ?_
          · intro W2 hW2
            exact IH.out t _ W2 (fun b => b < w5.heap.size) (d + 1) hsz ((hv.below hW (fun b hb => hb)).below hW2 (fun b hb => Nat.lt_of_lt_of_le hb hW.size)) (fun b hb => Nat.lt_of_lt_of_le hb (Nat.le_trans hW.size hW2.size)) (by omega) (by omega)
          · rintro e w' ⟨rfl, hb⟩
            exact ⟨rfl, hW.trans (hb.mono hW.size)⟩
        clear IH a7
        go_wp2_with (first
          | ((go_at_call 171; refine (HF.out _).mono ?_; rintro e w5 ⟨rfl, hb5⟩; obtain ⟨c3, cd, hb6⟩ := cells_below2 hb5; have HB6 := Lib.hid hb6; have CD := Lib.hid cd; clear hb5 hb6 cd))
          | ((go_at_call 172; refine (HW.out _ HB6.out CD.out).mono ?_; rintro e w7 ⟨rfl, hb7⟩; have HB7 := Lib.hid hb7; clear hb7)))
        all_goals
          go_ret
          refine ⟨?_, HB6.out.trans (HB7.out.mono HB6.out.size)⟩
          rw [hr.out]
          rfl
    · have hr : (VT.node ka na sa la).right d = false := by rw [VT.right_node]; simp [h200]
      rw [hr]
      go_enter Tryz.func139, Tryz.ntmps139
      go_wp2
      go_ret
      exact ⟨rfl, ((Below.refl _ _).alloc (Nat.le_refl _) _).alloc (by simp) _⟩
end Go.Proofs.YtcpgbekcbaelpaaGreatDoor
/- The reference's bytes: a value's bytes behind others. -/
namespace Go.Proofs.YtcpgbekcbaelpaaGreatDoor
open Go.RowKit Go.Maps Wr
set_option linter.unusedVariables false

theorem num_pos (n : Int) : 0 < (bytes (num n)).size := by
  rw [bytes_size]; have := num_ne n; cases h : num n; exact absurd h this; simp
section
variable (k : Nat) (ih : ∀ (t : VT) (vt : Value) (w : World) (P : Nat → Prop) (d : Int) (N : Nat) (v : Value) (b : List UInt8), t.sz ≤ k → t.right d = true → ValIs w P t vt → (∀ x, P x → x < w.heap.size ∧ v.ownBlock ≠ some x) → ByteRow w N v b → N ≤ w.heap.size → b.length ≤ 100000 →
    Calls Tryz.prog 81 #[v, vt] w (PutEnd w N v (t.put 32768 b)))
include ih in
end
end Go.Proofs.YtcpgbekcbaelpaaGreatDoor
/- Encode and Check, the reference's and the program's. -/
namespace Go.Proofs.YtcpgbekcbaelpaaGreatDoor
open Go.RowKit Go.Maps Wr
set_option linter.unusedVariables false

def encErr (t : VT) : Int := if t.right 1 = true then (if (t.enc).length ≤ 16384 then 0 else 4) else 2
def encBytes (t : VT) : List UInt8 := if t.right 1 = true then (if (t.enc).length ≤ 16384 then t.enc else []) else []
theorem put_len16 {t : VT} : 16384 < (VT.put 16384 t []).length ↔ 16384 < t.enc.length := by
  rcases VT.put_or 16384 t [] with e | ⟨h1, h2⟩
  · rw [e, List.nil_append]
  · rw [List.nil_append] at h2; omega
theorem put_fits16 {t : VT} (h : ¬ 16384 < t.enc.length) : VT.put 16384 t [] = t.enc := VT.put_fits (by omega)
theorem encErr_wrong {t : VT} (h : t.right 1 = false) : encErr t = 2 ∧ encBytes t = [] := by simp [encErr, encBytes, h]
theorem encErr_big {t : VT} (h : t.right 1 = true) (h2 : 16384 < t.enc.length) : encErr t = 4 ∧ encBytes t = [] := by
  have : ¬ t.enc.length ≤ 16384 := by omega
  simp [encErr, encBytes, h, this]
theorem encErr_ok {t : VT} (h : t.right 1 = true) (h2 : ¬ 16384 < t.enc.length) : encErr t = 0 ∧ encBytes t = t.enc := by
  have : t.enc.length ≤ 16384 := by omega
  simp [encErr, encBytes, h, this]
def EncEnd (w : World) (t : VT) (e : Ending) (w' : World) : Prop := ∃ v, e = .returned (.tuple #[v, .int .i64 (encErr t)]) ∧ ByteRow w' w.heap.size v (encBytes t) ∧ Below w.heap.size w w'

theorem nil_row (w : World) (N : Nat) : ByteRow w N (.slice none 0 0) [] := ⟨Row.nil _ _, fun k h => by simp [Value.ownBlock] at h⟩

set_option maxRecDepth 100000 in
set_option maxHeartbeats 1600000 in
theorem encode_any (t : VT) (vt : Value) (w : World) (P : Nat → Prop) (hv : ValIs w P t vt) (hP : ∀ x, P x → x < w.heap.size) :
    Calls Tryz.prog 91 #[vt] w (EncEnd w t) := by
  have HV := Lib.hid hv
  have HRT : Hid (∀ W, Below w.heap.size w W → Calls Tryz.prog 139 #[vt, .int .i64 1] W fun e w' => e = .returned (.bool (t.right 1)) ∧ Below W.heap.size W w') := fun W hW => right_walk t.sz t vt W P 1 (Nat.le_refl _) (hv.below hW hP) (fun b hb => Nat.lt_of_lt_of_le (hP b hb) hW.size) (by omega) (by omega)
  have HPT : Hid (t.right 1 = true → ∀ W, Below w.heap.size w W → Calls Tryz.prog 141 #[.slice none 0 0, vt] W (PutEnd W w.heap.size (.slice none 0 0) (t.put 16384 []))) := fun hr W hW => put_walk t.sz t vt W P 1 w.heap.size _ [] (Nat.le_refl _) hr (hv.below hW hP) (fun b hb => ⟨Nat.lt_of_lt_of_le (hP b hb) hW.size, by simp [Value.ownBlock]⟩) (nil_row _ _) hW.size (by simp)
  have hv0 := hv
  obtain ⟨ka, na, sa, la⟩ := t
  unfold ValIs at hv0
  obtain ⟨ao, cap, rfl, a1, a2, a3, a4, a5, a6, a7⟩ := hv0
  generalize VT.node ka na sa la = t at *
  clear hv a7
  cases hr : t.right 1
  · rw [hr] at HRT
    have HE := Lib.hid (encErr_wrong hr)
    clear HPT hr
    go_enter Tryz.func91, Tryz.ntmps91
    go_wp2_with ((go_at_call 139; refine (HRT.out _ ((Below.refl _ _).alloc (Nat.le_refl _) _)).mono ?_; rintro e w5 ⟨rfl, hb5⟩; obtain ⟨c0, c1, c2, c3, hb6⟩ := cells_below hb5; have H6 := Lib.hid hb6; clear hb5 hb6))
    refine bodyPost_ret (v := .tuple #[.slice none 0 0, .int .i64 2]) (by simp [results, Tryz.results91, go_sem]) rfl ?_
    exact ⟨.slice none 0 0, by rw [HE.out.1], by rw [HE.out.2]; exact nil_row _ _, H6.out⟩
  · rw [hr] at HRT
    have HP2 := Lib.hid (HPT.out hr)
    have HRR := Lib.hid hr
    clear HPT hr
    have hlen := Lib.hid (put_len16 (t := t))
    obtain ⟨bz, hbz⟩ : ∃ b, VT.put 16384 t [] = b := ⟨_, rfl⟩
    rw [hbz] at HP2 hlen
    have HBZ := Lib.hid hbz
    clear hbz
    by_cases hbig : 16384 < bz.length
    · have HE := Lib.hid (encErr_big HRR.out (hlen.out.1 hbig))
      have hbig' : (16384 : Int) < bz.length := by omega
      go_enter Tryz.func91, Tryz.ntmps91
      go_wp2_with (first
        | ((go_at_call 139; refine (HRT.out _ ((Below.refl _ _).alloc (Nat.le_refl _) _)).mono ?_; rintro e w5 ⟨rfl, hb5⟩; obtain ⟨c0, c1, c2, c3, hb6⟩ := cells_below hb5; have H6 := Lib.hid hb6; clear hb5 hb6))
        | ((go_at_call 141; refine (HP2.out _ H6.out).mono ?_; rintro e w7 ⟨v7, rfl, hr7, ho7⟩; have R7 := Lib.hid hr7; have O7 := Lib.hid ho7; obtain ⟨ao7, cap7, rfl, _, _⟩ := hr7.form; clear hr7 ho7)))
      refine bodyPost_ret (v := .tuple #[.slice none 0 0, .int .i64 4]) (by simp [results, Tryz.results91, go_sem]) rfl ?_
      exact ⟨.slice none 0 0, by rw [HE.out.1], by rw [HE.out.2]; exact nil_row _ _, H6.out.trans (O7.out.below H6.out.size (by simp [Value.ownBlock]))⟩
    · have HE := Lib.hid (encErr_ok HRR.out (fun h => hbig (hlen.out.2 h)))
      have HZ : Hid (bz = t.enc) := by show _ = _; rw [← HBZ.out]; exact put_fits16 (fun h => hbig (hlen.out.2 h))
      have hbig' : ¬ (16384 : Int) < bz.length := by omega
      go_enter Tryz.func91, Tryz.ntmps91
      go_wp2_with (first
        | ((go_at_call 139; refine (HRT.out _ ((Below.refl _ _).alloc (Nat.le_refl _) _)).mono ?_; rintro e w5 ⟨rfl, hb5⟩; obtain ⟨c0, c1, c2, c3, hb6⟩ := cells_below hb5; have H6 := Lib.hid hb6; clear hb5 hb6))
        | ((go_at_call 141; refine (HP2.out _ H6.out).mono ?_; rintro e w7 ⟨v7, rfl, hr7, ho7⟩; have R7 := Lib.hid hr7; have O7 := Lib.hid ho7; obtain ⟨ao7, cap7, rfl, _, _⟩ := hr7.form; clear hr7 ho7)))
      refine bodyPost_ret (v := .tuple #[.slice ao7 bz.length cap7, .int .i64 0]) (by simp [results, Tryz.results91, go_sem]) rfl ?_
      exact ⟨_, by rw [HE.out.1], by rw [HE.out.2, ← HZ.out]; exact R7.out, H6.out.trans (O7.out.below H6.out.size (by simp [Value.ownBlock]))⟩

end Go.Proofs.YtcpgbekcbaelpaaGreatDoor
/- A row of values that is being made. -/
namespace Go.Proofs.YtcpgbekcbaelpaaGreatDoor
open Go.RowKit Go.Maps

theorem infoV : (Tryz.prog.info? 33).map (fun i => (i.zero, i.size, i.bytes)) = some (some (.agg #[.int .i64 0, .int .i64 0, .string ⟨#[]⟩, .slice none 0 0]), 4, 56) := by kernel_rfl

def kcell (t : VT) (p : Option Addr × Nat) : List Value := [.int .i64 t.kind, .int .i64 t.num, .string t.text, .slice p.1 t.kids.length p.2]
def kcells : List VT → List (Option Addr × Nat) → List Value
  | t :: l, p :: ps => kcell t p ++ kcells l ps
  | _, _ => []
theorem kcells_length : ∀ {l : List VT} {ps : List (Option Addr × Nat)}, ps.length = l.length → (kcells l ps).length = l.length * 4
  | [], [], _ => rfl
  | t :: l, p :: ps, h => by
    simp only [List.length_cons] at h
    rw [kcells, List.length_append, kcells_length (by omega)]; simp [kcell]; omega
theorem kcells_get : ∀ {l : List VT} {ps : List (Option Addr × Nat)} {i r : Nat} {t : VT} {p : Option Addr × Nat}, l[i]? = some t → ps[i]? = some p → r < 4 → (kcells l ps)[i * 4 + r]? = (kcell t p)[r]?
  | [], _, _, _, _, _, h, _, _ => by cases h
  | _ :: _, [], _, _, _, _, _, h, _ => by cases h
  | t :: l, p :: ps, 0, r, u, q, h, h2, hr => by
    rw [List.getElem?_cons_zero] at h h2; cases h; cases h2
    rw [kcells, Nat.zero_mul, Nat.zero_add, List.getElem?_append_left (by simp [kcell]; omega)]
  | t :: l, p :: ps, i + 1, r, u, q, h, h2, hr => by
    rw [List.getElem?_cons_succ] at h h2
    rw [kcells, List.getElem?_append_right (by simp [kcell]; omega), show (i + 1) * 4 + r - (kcell t p).length = i * 4 + r by simp [kcell]; omega]
    exact kcells_get h h2 hr
theorem kcells_snoc : ∀ {l : List VT} {ps : List (Option Addr × Nat)} {t : VT} {p : Option Addr × Nat}, ps.length = l.length → kcells (l ++ [t]) (ps ++ [p]) = kcells l ps ++ kcell t p
  | [], [], _, _, _ => by simp [kcells]
  | t :: l, q :: ps, u, p, h => by
    simp only [List.length_cons] at h
    rw [List.cons_append, List.cons_append, kcells, kcells, kcells_snoc (by omega), List.append_assoc]

theorem KidsAt.mk {w : World} {P : Nat → Prop} {ao : Option Addr} : ∀ {l : List VT} {j : Nat}, (∀ i t, l[i]? = some t → ∃ b off x0 x1 x2 x3, ao = some ⟨b, off, none⟩ ∧ P b ∧ w.cell? ⟨b, off + (j + i) * 4, none⟩ = some x0 ∧ w.cell? ⟨b, off + (j + i) * 4 + 1, none⟩ = some x1 ∧ w.cell? ⟨b, off + (j + i) * 4 + 2, none⟩ = some x2 ∧ w.cell? ⟨b, off + (j + i) * 4 + 3, none⟩ = some x3 ∧ ValIs w P t (.agg #[x0, x1, x2, x3])) → KidsAt w P l ao j
  | [], _, _ => by unfold KidsAt; trivial
  | t :: l, j, h => by
    unfold KidsAt
    refine ⟨?_, KidsAt.mk fun i u hu => ?_⟩
    · have := h 0 t rfl
      rwa [Nat.add_zero] at this
    · have := h (i + 1) u (by rw [List.getElem?_cons_succ]; exact hu)
      rwa [show j + (i + 1) = j + 1 + i by omega] at this

def KRow (w : World) (base : Nat) (v : Value) (l : List VT) : Prop :=
  ∃ ps : List (Option Addr × Nat), ps.length = l.length ∧ RowZ w 33 4 v l.length (kcells l ps) ∧ (∀ k, v.ownBlock = some k → base ≤ k) ∧
    ∀ (i : Nat) (t : VT) (p : Option Addr × Nat), l[i]? = some t → ps[i]? = some p → ValIs w (fun b => base ≤ b ∧ b < w.heap.size ∧ v.ownBlock ≠ some b) t (vval t p.1 p.2)

section
variable {w w' : World} {base : Nat} {v : Value} {l : List VT}
theorem KRow.nil (w : World) (base : Nat) : KRow w base (.slice none 0 0) [] := ⟨[], rfl, RowZ.nil _ _ _, fun k h => by simp [Value.ownBlock] at h, fun i t p h => by cases h⟩
theorem KRow.below (h : KRow w base v l) (hb : Below w.heap.size w w') : KRow w' base v l := by
  obtain ⟨ps, h1, h2, h3, h4⟩ := h
  refine ⟨ps, h1, h2.below hb (fun k hk => h2.lt hk), h3, fun i t p ht hp => ?_⟩
  exact ((h4 i t p ht hp).below hb (fun b hb => hb.2.1)).mono fun b hb' => ⟨hb'.1, Nat.lt_of_lt_of_le hb'.2.1 hb.size, hb'.2.2⟩
theorem KRow.kids (h : KRow w base v l) : ∃ ao cap, v = .slice ao l.length cap ∧ l.length ≤ cap ∧ cap ≤ maxLen ∧ (ao = none → cap = 0) ∧ KidsAt w (fun b => base ≤ b ∧ b < w.heap.size) l ao 0 := by
  obtain ⟨ps, h1, h2, h3, h4⟩ := h
  obtain ⟨ao, cap, rfl, hle, hm, hn, hs⟩ := h2.form
  refine ⟨ao, cap, rfl, hle, hm, fun e => (hn e).2, KidsAt.mk fun i t ht => ?_⟩
  have hil := (List.getElem?_eq_some_iff.1 ht).1
  obtain ⟨p, hp⟩ : ∃ p, ps[i]? = some p := ⟨_, List.getElem?_eq_getElem (by omega)⟩
  cases ao with
  | none => have := (hn rfl).1; omega
  | some a =>
    obtain ⟨g, rfl, hg, hgb⟩ := hs a rfl
    have hlen := kcells_length h1
    have c : ∀ r, r < 4 → w.cell? ⟨g, i * 4 + r, none⟩ = (kcell t p)[r]? := fun r hr => by
      rw [← kcells_get ht hp hr]
      exact h2.cellAt _ (by rw [hlen]; omega)
    refine ⟨g, 0, _, _, _, _, rfl, ⟨h3 g hgb, hg⟩, ?_, ?_, ?_, ?_, (h4 i t p ht hp).mono fun b hb => ⟨hb.1, hb.2.1⟩⟩
    · rw [Nat.zero_add, Nat.zero_add]; exact c 0 (by omega)
    · rw [Nat.zero_add, Nat.zero_add]; exact c 1 (by omega)
    · rw [Nat.zero_add, Nat.zero_add]; exact c 2 (by omega)
    · rw [Nat.zero_add, Nat.zero_add]; exact c 3 (by omega)
theorem KRow.app {t : VT} {p : Option Addr × Nat} {o : Obj} {g cap : Nat} {ps : List (Option Addr × Nat)} (h1 : ps.length = l.length) (h3 : ∀ k, v.ownBlock = some k → base ≤ k ∧ k < w.heap.size) (hbase : base ≤ w.heap.size)
    (h4 : ∀ (i : Nat) (t : VT) (p : Option Addr × Nat), l[i]? = some t → ps[i]? = some p → ValIs w (fun b => base ≤ b ∧ b < w.heap.size ∧ v.ownBlock ≠ some b) t (vval t p.1 p.2))
    (ht : ValIs w (fun b => base ≤ b ∧ b < w.heap.size ∧ v.ownBlock ≠ some b) t (vval t p.1 p.2))
    (hr : RowZ w' 33 4 (.slice (some ⟨g, 0, none⟩) (l.length + 1) cap) (l.length + 1) (kcells l ps ++ kcell t p)) (hg : (w.alloc o).grownBy w' v.ownBlock) (hl : v.ownBlock = some g ∨ g = (w.alloc o).heap.size) :
    KRow w' base (.slice (some ⟨g, 0, none⟩) (l.length + 1) cap) (l ++ [t]) := by
  have hc : Chg v.ownBlock.toList w w' := ((Chg.refl _ w).alloc o).grown hg (fun k hk => .inl (by simp [hk]))
  have hsz := hc.size
  have hsz2 : w.heap.size + 1 ≤ w'.heap.size := by have := hg.size; simpa using this
  have hgl : g < w'.heap.size := hr.lt rfl
  have keep : ∀ {u : VT} {x : Value}, ValIs w (fun b => base ≤ b ∧ b < w.heap.size ∧ v.ownBlock ≠ some b) u x → ValIs w' (fun b => base ≤ b ∧ b < w'.heap.size ∧ (Value.slice (some ⟨g, 0, none⟩) (l.length + 1) cap).ownBlock ≠ some b) u x := fun hv =>
    (hv.chg hc (fun b hb => ⟨hb.2.1, by simpa using hb.2.2⟩)).mono fun b hb => ⟨hb.1, by omega, by
      simp only [Value.ownBlock, ne_eq, Option.some.injEq]
      rintro rfl
      rcases hl with e | e
      · exact hb.2.2 e
      · simp at e; omega⟩
  refine ⟨ps ++ [p], by simp [h1], ?_, fun k hk => ?_, fun i u q hu hq => ?_⟩
  · rw [kcells_snoc h1, List.length_append]; exact hr
  · simp only [Value.ownBlock, Option.some.injEq] at hk
    subst hk
    rcases hl with e | e
    · exact (h3 _ e).1
    · simp at e; omega
  · by_cases hi : i < l.length
    · rw [List.getElem?_append_left hi] at hu
      rw [List.getElem?_append_left (by omega)] at hq
      exact keep (h4 i u q hu hq)
    · have : i = l.length := by
        have := (List.getElem?_eq_some_iff.1 hu).1
        simp at this; omega
      subst this
      rw [List.getElem?_append_right (Nat.le_refl _), Nat.sub_self] at hu
      rw [List.getElem?_append_right (by omega), h1, Nat.sub_self] at hq
      cases hu; cases hq
      exact keep ht
end
end Go.Proofs.YtcpgbekcbaelpaaGreatDoor
/- The reference's Tame: a copy of a value that is cut to so many parts, so deep. -/
namespace Go.Proofs.YtcpgbekcbaelpaaGreatDoor
open Go.RowKit Go.Maps
set_option linter.unusedVariables false

def cutText (s : ByteArray) : ByteArray := s.extract 0 (min s.size 5000)
namespace VT
mutual
def tame : VT → Int → Int → VT × Int
  | node k n s l, d, left => (node k n (cutText s) (tames l 12 d (left - 1)).1, (tames l 12 d (left - 1)).2)
def tames : List VT → Nat → Int → Int → List VT × Int
  | [], _, _, left => ([], left)
  | t :: ts, m, d, left => if 0 < m ∧ 1 < d ∧ 0 < left then ((tame t (d - 1) left).1 :: (tames ts (m - 1) d (tame t (d - 1) left).2).1, (tames ts (m - 1) d (tame t (d - 1) left).2).2) else ([], left)
end
mutual
theorem tame_left : ∀ (t : VT) (d left : Int), -1000 ≤ left → left ≤ 1000 → -1001 ≤ (tame t d left).2 ∧ (tame t d left).2 ≤ 1000 ∧ (0 < left → -1000 ≤ (tame t d left).2)
  | node k n s l, d, left, h1, h2 => by
    rw [tame]
    have := tames_left l 12 d (left - 1) (by omega) (by omega)
    simp only
    refine ⟨by omega, by omega, fun h => ?_⟩
    have := this.2.2 (by omega)
    omega
theorem tames_left : ∀ (l : List VT) (m : Nat) (d left : Int), -1001 ≤ left → left ≤ 1000 → -1001 ≤ (tames l m d left).2 ∧ (tames l m d left).2 ≤ 1000 ∧ (-1000 ≤ left → -1000 ≤ (tames l m d left).2)
  | [], m, d, left, h1, h2 => by rw [tames]; exact ⟨h1, h2, fun h => h⟩
  | t :: ts, m, d, left, h1, h2 => by
    rw [tames]
    split
    · rename_i hc
      have a := tame_left t (d - 1) left (by omega) h2
      have b := tames_left ts (m - 1) d (tame t (d - 1) left).2 (by omega) (by omega)
      simp only
      exact ⟨b.1, b.2.1, fun h => b.2.2 (a.2.2 hc.2.2)⟩
    · exact ⟨h1, h2, fun h => h⟩
end
end VT

theorem ValIs.form {w : World} {P : Nat → Prop} {t : VT} {v : Value} (h : ValIs w P t v) : ∃ ao cap, v = vval t ao cap := by
  cases t with
  | node k n s l => unfold ValIs at h; obtain ⟨ao, cap, h, _⟩ := h; exact ⟨ao, cap, h⟩
theorem cell_four_new (w : World) (a b c d : Value) (t : TypeId) : ∀ (j : Nat) (u : Value), [a, b, c, d][j]? = some u → (w.alloc (.cells #[a, b, c, d] t)).cell? (Addr.add ⟨w.heap.size, 0, none⟩ j) = some u := by
  intro j u hj
  have hlt := (List.getElem?_eq_some_iff.1 hj).1
  simp at hlt
  have e : (Addr.add ⟨w.heap.size, 0, none⟩ j) = ⟨w.heap.size, j, none⟩ := by unfold Addr.add; split <;> simp_all
  rw [e]
  have : j = 0 ∨ j = 1 ∨ j = 2 ∨ j = 3 := by omega
  rcases this with rfl | rfl | rfl | rfl <;> simpa using hj
theorem cell_four_new2 (w : World) (o : Obj) (a b c d : Value) (t : TypeId) : ∀ (j : Nat) (u : Value), [a, b, c, d][j]? = some u → ((w.alloc o).alloc (.cells #[a, b, c, d] t)).cell? (Addr.add ⟨w.heap.size + 1, 0, none⟩ j) = some u := by
  have := cell_four_new (w.alloc o) a b c d t
  simpa using this
theorem kcell_one (t : VT) (p : Option Addr × Nat) : ∀ u ∈ kcell t p, u.oneCell' = true := by
  intro u hu
  simp only [kcell, List.mem_cons, List.not_mem_nil, or_false] at hu
  rcases hu with rfl | rfl | rfl | rfl <;> rfl
theorem RowZ.alloc {w : World} {e : TypeId} {sz n : Nat} {v : Value} {xs : List Value} (h : RowZ w e sz v n xs) (o : Obj) : RowZ (w.alloc o) e sz v n xs := h.chg ((Chg.refl [] w).alloc o) (fun _ _ => by simp)

def TameEnd (w : World) (r : VT × Int) (e : Ending) (w' : World) : Prop :=
  ∃ v, e = .returned (.tuple #[v, .int .i64 r.2]) ∧ ValIs w' (fun b => w.heap.size ≤ b ∧ b < w'.heap.size) r.1 v ∧ Below w.heap.size w w'
def TameLoop (base : Nat) (W : World) (l : List VT) (d left : Int) (k : Nat) (s8 s9 s2 : Value) (w : World) : Prop :=
  ∃ (i : Nat) (l' : List VT) (q : Int), s9 = .int .i64 i ∧ s2 = .int .i64 q ∧ KRow w base s8 l' ∧ l'.length = i ∧ i + k = 12 ∧ -1001 ≤ q ∧ q ≤ 1000 ∧ VT.tames l 12 d left = (l' ++ (VT.tames (l.drop i) (12 - i) d q).1, (VT.tames (l.drop i) (12 - i) d q).2) ∧ Below base W w

theorem kids_app {wr w5 w' : World} {base g cap : Nat} {v : Value} {l : List VT} {ps : List (Option Addr × Nat)} {t : VT} {p : Option Addr × Nat} {o1 o2 : Obj} (hk : KRow wr base v l) (hbs : base ≤ wr.heap.size) (hb5 : Below wr.heap.size wr w5) (k1 : ps.length = l.length)
    (k3 : ∀ k, v.ownBlock = some k → base ≤ k)
    (k4 : ∀ (i : Nat) (t : VT) (p : Option Addr × Nat), l[i]? = some t → ps[i]? = some p → ValIs w5 (fun b => base ≤ b ∧ b < w5.heap.size ∧ v.ownBlock ≠ some b) t (vval t p.1 p.2))
    (hv : ValIs w5 (fun b => wr.heap.size ≤ b ∧ b < w5.heap.size) t (vval t p.1 p.2))
    (hr : RowZ w' 33 4 (.slice (some ⟨g, 0, none⟩) (l.length + 1) cap) (l.length + 1) (kcells l ps ++ kcell t p)) (hg : ((w5.alloc o1).alloc o2).grownBy w' v.ownBlock) (hl : v.ownBlock = some g ∨ g = ((w5.alloc o1).alloc o2).heap.size) :
    KRow w' base (.slice (some ⟨g, 0, none⟩) (l.length + 1) cap) (l ++ [t]) ∧ Below base wr w' := by
  have hlt : ∀ k, v.ownBlock = some k → k < wr.heap.size := fun k hk' => by obtain ⟨_, _, h2, _, _⟩ := hk; exact h2.lt hk'
  have hA : Below w5.heap.size w5 (w5.alloc o1) := (Below.refl _ _).alloc (Nat.le_refl _) _
  have hs5 := hb5.size
  refine ⟨KRow.app (w := w5.alloc o1) k1 (fun k hk' => ⟨k3 k hk', by have := hlt k hk'; simp; omega⟩) (by simp; omega) (fun i t p ht hp => ?_) ?_ hr hg hl, ?_⟩
  · exact ((k4 i t p ht hp).below hA (fun b hb => hb.2.1)).mono fun b hb => ⟨hb.1, by have := hb.2.1; simp; omega, hb.2.2⟩
  · exact (hv.below hA (fun b hb => hb.2)).mono fun b hb => ⟨by omega, by have := hb.2; simp; omega, fun e => by have := hlt b e; omega⟩
  · have hc : Chg v.ownBlock.toList wr w' := ((((Chg.refl _ wr).thenBelow hb5).alloc o1).alloc o2).grown hg (fun k hk => .inl (by simp [hk]))
    exact hc.below hbs (fun k hk' => k3 k (by simpa using hk'))

theorem hdr4_set {w : World} {p : Nat} {a b c d u : Value} {t : TypeId} {o : Nat} (h : w.heap[p]? = some (.cells #[a, b, c, d] t (0, 0))) : (w.setCell ⟨p, o, none⟩ u).heap[p]? = some (.cells (#[a, b, c, d].setIfInBounds o u) t (0, 0)) := by
  have hlt := lt_of_block h
  have h' : w.heap[p] = .cells #[a, b, c, d] t (0, 0) := by simpa [Array.getElem?_eq_getElem hlt] using h
  show (w.heap.modify p _)[p]? = _
  rw [Array.getElem?_eq_getElem (by simpa using hlt), Array.getElem_modify_self, h']
  rfl
theorem chg1_set (w : World) (p o : Nat) (u : Value) : Chg [p] w (w.setCell ⟨p, o, none⟩ u) := (Chg.refl [p] w).setCell (.inl (by simp)) u
theorem six_stores {w : World} {H : Nat} {a b c d x3 x2 y0 y1 y2 y3 : Value} {t : TypeId} (h : w.heap[H + 1]? = some (.cells #[a, b, c, d] t (0, 0))) :
    ((((((w.setCell ⟨H, 3, none⟩ x3).setCell ⟨H, 2, none⟩ x2).setCell ⟨H + 1, 0, none⟩ y0).setCell ⟨H + 1, 1, none⟩ y1).setCell ⟨H + 1, 2, none⟩ y2).setCell ⟨H + 1, 3, none⟩ y3).heap[H + 1]? = some (.cells #[y0, y1, y2, y3] t (0, 0)) ∧
    Chg [H, H + 1] w ((((((w.setCell ⟨H, 3, none⟩ x3).setCell ⟨H, 2, none⟩ x2).setCell ⟨H + 1, 0, none⟩ y0).setCell ⟨H + 1, 1, none⟩ y1).setCell ⟨H + 1, 2, none⟩ y2).setCell ⟨H + 1, 3, none⟩ y3) := by
  have hlt := lt_of_block h
  have c1 : Chg [H] w ((w.setCell ⟨H, 3, none⟩ x3).setCell ⟨H, 2, none⟩ x2) := ((Chg.refl [H] w).setCell (p := ⟨H, 3, none⟩) (.inl (by simp)) _).setCell (p := ⟨H, 2, none⟩) (.inl (by simp)) _
  have h1 := (c1.block (H + 1) hlt (by simp)).trans h
  have h2 := hdr4_set (o := 0) (u := y0) h1
  have h3 := hdr4_set (o := 1) (u := y1) (a := y0) (b := b) (c := c) (d := d) (h2.trans rfl)
  have h4 := hdr4_set (o := 2) (u := y2) (a := y0) (b := y1) (c := c) (d := d) (h3.trans rfl)
  have h5 := hdr4_set (o := 3) (u := y3) (a := y0) (b := y1) (c := y2) (d := d) (h4.trans rfl)
  refine ⟨h5.trans rfl, ?_⟩
  refine (((((c1.mono (by simp)).setCell (p := ⟨H + 1, 0, none⟩) (.inl (by simp)) _).setCell (p := ⟨H + 1, 1, none⟩) (.inl (by simp)) _).setCell (p := ⟨H + 1, 2, none⟩) (.inl (by simp)) _).setCell (p := ⟨H + 1, 3, none⟩) (.inl (by simp)) _)

theorem tame_end {w W2 wr wz : World} {t : VT} {d left q : Int} {ka na : Int} {sa : ByteArray} {la l' : List VT} {ao' : Option Addr} {cap' : Nat} (hsz : W2.heap.size = w.heap.size + 2) (hB2 : Below w.heap.size w W2) (hbe : Below W2.heap.size W2 wr) (hc : Chg [w.heap.size, w.heap.size + 1] wr wz)
    (ht : (VT.node ka na sa la).tame d left = (VT.node ka na (cutText sa) l', q)) (h1 : l'.length ≤ cap') (h2 : cap' ≤ maxLen) (h3 : (cutText sa).size ≤ maxLen) (h4 : (Lit.int .i64 ka).wf = true) (h5 : (Lit.int .i64 na).wf = true) (h6 : ao' = none → cap' = 0)
    (hk : KidsAt wr (fun b => W2.heap.size ≤ b ∧ b < wr.heap.size) l' ao' 0) : TameEnd w ((VT.node ka na sa la).tame d left) (.returned (.tuple #[.agg #[.int .i64 ka, .int .i64 na, .string (cutText sa), .slice ao' l'.length cap'], .int .i64 q])) wz := by
  rw [ht]
  refine ⟨_, rfl, ?_, ?_⟩
  · have hv : ValIs wr (fun b => W2.heap.size ≤ b ∧ b < wr.heap.size) (VT.node ka na (cutText sa) l') (.agg #[.int .i64 ka, .int .i64 na, .string (cutText sa), .slice ao' l'.length cap']) := by
      unfold ValIs; exact ⟨ao', cap', rfl, h1, h2, h3, h4, h5, h6, hk⟩
    exact (hv.chg hc (fun b hb => ⟨hb.2, by simp; omega⟩)).mono fun b hb => ⟨by omega, Nat.lt_of_lt_of_le hb.2 hc.size⟩
  · have hsr := hbe.size
    exact (hB2.trans (hbe.mono (by omega))).trans (hc.below (by omega) (by simp))

set_option maxRecDepth 100000 in
set_option maxHeartbeats 1600000 in
theorem tame_walk (k : Nat) : ∀ (t : VT) (v : Value) (w : World) (P : Nat → Prop) (d left : Int), t.sz ≤ k → ValIs w P t v → (∀ b, P b → b < w.heap.size) → 0 ≤ d → d ≤ 1000 → -1000 ≤ left → left ≤ 1000 →
    Calls Tryz.prog 40 #[v, .int .i64 d, .int .i64 left] w (TameEnd w (t.tame d left)) := by
  induction k with
  | zero => intro t v w P d left hk; cases t; simp [VT.sz] at hk
  | succ k ih =>
    intro t v w P d left hk ht hP hd0 hd1 hl0 hl1
    cases t with
    | node ka na sa la =>
    unfold ValIs at ht
    obtain ⟨ao, cap, rfl, a1, a2, a3, a4, a5, a6, a7⟩ := ht
    unfold maxLen at a2 a3
    go_enter Tryz.func40, Tryz.ntmps40
    go_wp2
    have hcut : sa.extract 0 (if (5000 : Int) < (sa.size : Int) then (5000 : Int) else (sa.size : Int)).toNat = cutText sa := by unfold cutText; congr 1; split <;> omega
    have HCUT := Lib.hid hcut
    clear hcut
    generalize hW2 : (w.alloc _).alloc _ = W2
    have hsz2 : W2.heap.size = w.heap.size + 2 := by rw [← hW2]; simp
    have CA : Hid (W2.heap[w.heap.size]? = some (.cells #[.int .i64 ka, .int .i64 na, .string sa, .slice ao la.length cap] 33 (0, 0))) := by
      show _ = _
      rw [← hW2]; exact (heap_alloc_old _ _ (by simp)).trans (heap_alloc_new _ _)
    have CB : Hid (W2.heap[w.heap.size + 1]? = some (.cells #[.int .i64 0, .int .i64 0, .string ⟨#[]⟩, .slice none 0 0] 33 (0, 0))) := by
      show _ = _
      rw [← hW2]
      have := heap_alloc_new (w.alloc (.cells #[.int .i64 ka, .int .i64 na, .string sa, .slice ao la.length cap] 33)) (.cells #[.int .i64 0, .int .i64 0, .string ⟨#[]⟩, .slice none 0 0] 33)
      simpa using this
    have hB2 : Hid (Below w.heap.size w W2) := by rw [← hW2]; exact ((Below.refl _ _).alloc (Nat.le_refl _) _).alloc (by simp) _
    clear hW2
    have HL : Hid (TameLoop W2.heap.size W2 la d (left - 1) 12 (.slice none 0 0) (.int .i64 0) (.int .i64 (left - 1)) W2) := ⟨0, [], left - 1, rfl, rfl, KRow.nil _ _, rfl, rfl, by omega, by omega, by simp, Below.refl _ _⟩
    go_loopg [8, 9, 2] 12 (fun k s8 s9 s2 wr => TameLoop W2.heap.size W2 la d (left - 1) k s8 s9 s2 wr)
    case atStart => exact HL.out
    case round =>
      clear HL
      obtain ⟨i, l', q, rfl, rfl, hkr, hll, hik, hq0, hq1, htm, hbe⟩ := hrel
      have hszb := hbe.size
      have hA : wr.heap[w.heap.size]? = some (.cells #[.int .i64 ka, .int .i64 na, .string sa, .slice ao la.length cap] 33 (0, 0)) := (hbe.block w.heap.size (by omega)).trans CA.out
      have hB : wr.heap[w.heap.size + 1]? = some (.cells #[.int .i64 0, .int .i64 0, .string ⟨#[]⟩, .slice none 0 0] 33 (0, 0)) := (hbe.block (w.heap.size + 1) (by omega)).trans CB.out
      have dA3 : wr.cell? ⟨w.heap.size, 3, none⟩ = some (.slice ao la.length cap) := by simp [World.cell?, hA]
      have HA := Lib.hid hA
      have HB := Lib.hid hB
      have HTM := Lib.hid htm
      have HBE := Lib.hid hbe
      have HKR := Lib.hid hkr
      have HLL := Lib.hid hll
      have HBW : Hid (Below w.heap.size w wr) := hB2.out.trans (hbe.mono (by omega))
      clear hA hB htm hbe hkr hll
      have hi0 : (0 : Int) ≤ (i : Int) := by omega
      have hi12 : (i : Int) ≤ 12 := by omega
      by_cases hgo : i < la.length ∧ 1 < d ∧ 0 < q ∧ i < 12
      · obtain ⟨g1, g2, g3, g4⟩ := hgo
        have g1' : (i : Int) < (la.length : Int) := by omega
        have g4' : (i : Int) < 12 := by omega
        obtain ⟨tk, htk⟩ : ∃ u, la[i]? = some u := ⟨_, List.getElem?_eq_getElem g1⟩
        obtain ⟨bb, oo, x0, x1, x2, x3, rfl, hbb, p0, p1, p2, p3, hvk⟩ := a7.get htk
        rw [Nat.zero_add] at p0 p1 p2 p3
        have hbb' := hP _ hbb
        replace p0 := (HBW.out.cell (p := ⟨bb, oo + i * 4, none⟩) hbb').trans p0
        replace p1 := (HBW.out.cell (p := ⟨bb, oo + i * 4 + 1, none⟩) hbb').trans p1
        replace p2 := (HBW.out.cell (p := ⟨bb, oo + i * 4 + 2, none⟩) hbb').trans p2
        replace p3 := (HBW.out.cell (p := ⟨bb, oo + i * 4 + 3, none⟩) hbb').trans p3
        have hvk' := Lib.hid (hvk.below HBW.out hP)
        have HPB : Hid (∀ b, P b → b < wr.heap.size) := fun b hb => Nat.lt_of_lt_of_le (hP b hb) HBW.out.size
        have hkid : Hid (tk.sz ≤ k) := by
          have h5 : tk.sz < (VT.node ka na sa la).sz := VT.sz_kid (t := VT.node ka na sa la) htk
          show tk.sz ≤ k; omega
        have hdrop : Hid (la.drop i = tk :: la.drop (i + 1)) := by
          show _ = _
          rw [List.drop_eq_getElem_cons g1]; congr 1; exact Option.some.inj ((List.getElem?_eq_getElem g1).symm.trans htk)
        have hlf := VT.tame_left tk (d - 1) q (by omega) hq1
        have HLF := Lib.hid hlf
        clear hvk htk hlf
        go_wp2_with
          (first
           | ((go_at_call 40; refine (ih tk _ _ P (d - 1) q hkid.out hvk'.out HPB.out (by omega) (by omega) (by omega) hq1).mono ?_; rintro e w5 ⟨v5, rfl, hv5, hb5⟩;
                obtain ⟨ao5, cap5, rfl⟩ := hv5.form; have HV5 := Lib.hid hv5; have HB5 := Lib.hid hb5; obtain ⟨ps, k1, k2, k3, k4⟩ := HKR.out.below hb5; have K1 := Lib.hid k1; have K2 := Lib.hid k2; have K3 := Lib.hid k3; have K4 := Lib.hid k4; clear hv5 hb5 k1 k2 k3 k4; unfold vval))
           | (at_builtin; (refine wpList_appz _ rfl _ _ 31 rfl 33 _ 4 56 Tryz.underlying31 infoV rfl (by decide) u8 l'.length (kcells l' ps) rfl ((K2.out.alloc _).alloc _) ⟨w5.heap.size + 1, 0, none⟩ 1 1 (kcell (tk.tame (d - 1) q).1 (ao5, cap5)) rfl (by omega) rfl (cell_four_new2 _ _ _ _ _ _ _) (kcell_one _ _) (by rw [HLL.out]; omega) (by omega) ?_; intro g cap1 w1 hr1 hg1 hl1)))
        obtain ⟨n1, n2⟩ := kids_app HKR.out HBE.out.size HB5.out K1.out K3.out K4.out HV5.out hr1 hg1 hl1
        go_roundg (gk - 1)
        case measure => omega
        case rel =>
          refine ⟨i + 1, l' ++ [(tk.tame (d - 1) q).1], (tk.tame (d - 1) q).2, by go_num, rfl, n1, by simp [HLL.out], by omega, ?_, HLF.out.2.1, ?_, HBE.out.trans n2⟩
          · have := HLF.out.2.2 g3; omega
          · rw [HTM.out, hdrop.out, VT.tames, if_pos ⟨by omega, g2, g3⟩, show 12 - (i + 1) = 12 - i - 1 by omega]; simp
      · have hx : Hid (VT.tames (la.drop i) (12 - i) d q = ([], q)) := by
          show _ = _
          cases hd : la.drop i with
          | nil => rw [VT.tames]
          | cons t ts =>
            have : i < la.length := by
              have := congrArg List.length hd; simp at this; omega
            rw [VT.tames, if_neg (by omega)]
        obtain ⟨ao', cap', hv8, hle', hcm', hnn', hks⟩ := HKR.out.kids
        subst hv8
        have HKS := Lib.hid hks
        have dA0 : wr.cell? ⟨w.heap.size, 0, none⟩ = some (.int .i64 ka) := by simp [World.cell?, HA.out]
        have dA1 : wr.cell? ⟨w.heap.size, 1, none⟩ = some (.int .i64 na) := by simp [World.cell?, HA.out]
        have dA2 : wr.cell? ⟨w.heap.size, 2, none⟩ = some (.string sa) := by simp [World.cell?, HA.out]
        have fA : ∀ o, wr.frozen? ⟨w.heap.size, o, none⟩ = false := fun o => by simp [World.frozen?, HA.out]
        have dB0 : wr.cell? ⟨w.heap.size + 1, 0, none⟩ = some (.int .i64 0) := by simp [World.cell?, HB.out]
        have dB1 : wr.cell? ⟨w.heap.size + 1, 1, none⟩ = some (.int .i64 0) := by simp [World.cell?, HB.out]
        have dB2 : wr.cell? ⟨w.heap.size + 1, 2, none⟩ = some (.string ⟨#[]⟩) := by simp [World.cell?, HB.out]
        have dB3 : wr.cell? ⟨w.heap.size + 1, 3, none⟩ = some (.slice none 0 0) := by simp [World.cell?, HB.out]
        have fB : ∀ o, wr.frozen? ⟨w.heap.size + 1, o, none⟩ = false := fun o => by simp [World.frozen?, HB.out]
        have hcut := HCUT.out
        have hc0 : (0 : Int) ≤ (if (5000 : Int) < (sa.size : Int) then (5000 : Int) else (sa.size : Int)) := by split <;> omega
        have hc1 : (if (5000 : Int) < (sa.size : Int) then (5000 : Int) else (sa.size : Int)) ≤ (sa.size : Int) := by split <;> omega
        clear hks
        by_cases g1 : (i : Int) < (la.length : Int)
        · by_cases g2 : 1 < d
          · by_cases g3 : 0 < q
            · have g4 : ¬ (i : Int) < 12 := by omega
              go_wp2
              all_goals
                obtain ⟨z1, z2⟩ := six_stores (x3 := .slice ao' l'.length cap') (x2 := .string (cutText sa)) (y0 := .int .i64 ka) (y1 := .int .i64 na) (y2 := .string (cutText sa)) (y3 := .slice ao' l'.length cap') HB.out
                generalize ((((((wr.setCell _ _).setCell _ _).setCell _ _).setCell _ _).setCell _ _).setCell _ _) = wz at z1 z2 ⊢
                have y0 : wz.cell? ⟨w.heap.size + 1, 0, none⟩ = some (.int .i64 ka) := by simp [World.cell?, z1]
                have y1 : wz.cell? ⟨w.heap.size + 1, 1, none⟩ = some (.int .i64 na) := by simp [World.cell?, z1]
                have y2 : wz.cell? ⟨w.heap.size + 1, 2, none⟩ = some (.string (cutText sa)) := by simp [World.cell?, z1]
                have y3 : wz.cell? ⟨w.heap.size + 1, 3, none⟩ = some (.slice ao' l'.length cap') := by simp [World.cell?, z1]
                refine bodyPost_ret (v := .tuple #[.agg #[.int .i64 ka, .int .i64 na, .string (cutText sa), .slice ao' l'.length cap'], .int .i64 q]) (by simp [results, Tryz.results40, go_sem, y0, y1, y2, y3]) rfl ?_
                exact tame_end (t := .node ka na sa la) hsz2 hB2.out HBE.out z2 (by rw [VT.tame, HTM.out, hx.out, List.append_nil]) hle' hcm' (by unfold cutText maxLen; rw [ByteArray.size_extract]; omega) a4 a5 hnn' HKS.out
            · go_wp2
              all_goals
                obtain ⟨z1, z2⟩ := six_stores (x3 := .slice ao' l'.length cap') (x2 := .string (cutText sa)) (y0 := .int .i64 ka) (y1 := .int .i64 na) (y2 := .string (cutText sa)) (y3 := .slice ao' l'.length cap') HB.out
                generalize ((((((wr.setCell _ _).setCell _ _).setCell _ _).setCell _ _).setCell _ _).setCell _ _) = wz at z1 z2 ⊢
                have y0 : wz.cell? ⟨w.heap.size + 1, 0, none⟩ = some (.int .i64 ka) := by simp [World.cell?, z1]
                have y1 : wz.cell? ⟨w.heap.size + 1, 1, none⟩ = some (.int .i64 na) := by simp [World.cell?, z1]
                have y2 : wz.cell? ⟨w.heap.size + 1, 2, none⟩ = some (.string (cutText sa)) := by simp [World.cell?, z1]
                have y3 : wz.cell? ⟨w.heap.size + 1, 3, none⟩ = some (.slice ao' l'.length cap') := by simp [World.cell?, z1]
                refine bodyPost_ret (v := .tuple #[.agg #[.int .i64 ka, .int .i64 na, .string (cutText sa), .slice ao' l'.length cap'], .int .i64 q]) (by simp [results, Tryz.results40, go_sem, y0, y1, y2, y3]) rfl ?_
                exact tame_end (t := .node ka na sa la) hsz2 hB2.out HBE.out z2 (by rw [VT.tame, HTM.out, hx.out, List.append_nil]) hle' hcm' (by unfold cutText maxLen; rw [ByteArray.size_extract]; omega) a4 a5 hnn' HKS.out
          · go_wp2
            all_goals
              obtain ⟨z1, z2⟩ := six_stores (x3 := .slice ao' l'.length cap') (x2 := .string (cutText sa)) (y0 := .int .i64 ka) (y1 := .int .i64 na) (y2 := .string (cutText sa)) (y3 := .slice ao' l'.length cap') HB.out
              generalize ((((((wr.setCell _ _).setCell _ _).setCell _ _).setCell _ _).setCell _ _).setCell _ _) = wz at z1 z2 ⊢
              have y0 : wz.cell? ⟨w.heap.size + 1, 0, none⟩ = some (.int .i64 ka) := by simp [World.cell?, z1]
              have y1 : wz.cell? ⟨w.heap.size + 1, 1, none⟩ = some (.int .i64 na) := by simp [World.cell?, z1]
              have y2 : wz.cell? ⟨w.heap.size + 1, 2, none⟩ = some (.string (cutText sa)) := by simp [World.cell?, z1]
              have y3 : wz.cell? ⟨w.heap.size + 1, 3, none⟩ = some (.slice ao' l'.length cap') := by simp [World.cell?, z1]
              refine bodyPost_ret (v := .tuple #[.agg #[.int .i64 ka, .int .i64 na, .string (cutText sa), .slice ao' l'.length cap'], .int .i64 q]) (by simp [results, Tryz.results40, go_sem, y0, y1, y2, y3]) rfl ?_
              exact tame_end (t := .node ka na sa la) hsz2 hB2.out HBE.out z2 (by rw [VT.tame, HTM.out, hx.out, List.append_nil]) hle' hcm' (by unfold cutText maxLen; rw [ByteArray.size_extract]; omega) a4 a5 hnn' HKS.out
        · go_wp2
          all_goals
            obtain ⟨z1, z2⟩ := six_stores (x3 := .slice ao' l'.length cap') (x2 := .string (cutText sa)) (y0 := .int .i64 ka) (y1 := .int .i64 na) (y2 := .string (cutText sa)) (y3 := .slice ao' l'.length cap') HB.out
            generalize ((((((wr.setCell _ _).setCell _ _).setCell _ _).setCell _ _).setCell _ _).setCell _ _) = wz at z1 z2 ⊢
            have y0 : wz.cell? ⟨w.heap.size + 1, 0, none⟩ = some (.int .i64 ka) := by simp [World.cell?, z1]
            have y1 : wz.cell? ⟨w.heap.size + 1, 1, none⟩ = some (.int .i64 na) := by simp [World.cell?, z1]
            have y2 : wz.cell? ⟨w.heap.size + 1, 2, none⟩ = some (.string (cutText sa)) := by simp [World.cell?, z1]
            have y3 : wz.cell? ⟨w.heap.size + 1, 3, none⟩ = some (.slice ao' l'.length cap') := by simp [World.cell?, z1]
            refine bodyPost_ret (v := .tuple #[.agg #[.int .i64 ka, .int .i64 na, .string (cutText sa), .slice ao' l'.length cap'], .int .i64 q]) (by simp [results, Tryz.results40, go_sem, y0, y1, y2, y3]) rfl ?_
            exact tame_end (t := .node ka na sa la) hsz2 hB2.out HBE.out z2 (by rw [VT.tame, HTM.out, hx.out, List.append_nil]) hle' hcm' (by unfold cutText maxLen; rw [ByteArray.size_extract]; omega) a4 a5 hnn' HKS.out
end Go.Proofs.YtcpgbekcbaelpaaGreatDoor
/- Layers 2, 4, 5 and 7 in plain words: sums, a disk, a log, a store. No program in sight. -/
namespace Go.Proofs.YtcpgbekcbaelpaaGreatDoor
open Wr
set_option linter.unusedVariables false
set_option linter.unusedSimpArgs false
namespace St
def halfT : List Nat := [0x00000000, 0x105ec76f, 0x20bd8ede, 0x30e349b1, 0x417b1dbc, 0x5125dad3, 0x61c69362, 0x7198540d, 0x82f63b78, 0x92a8fc17, 0xa24bb5a6, 0xb21572c9, 0xc38d26c4, 0xd3d3e1ab, 0xe330a81a, 0xf36e6f75]
def four (r : Nat) : Nat := (r / 16) ^^^ halfT.getD (r % 16) 0
def crcByte (r : Nat) (x : UInt8) : Nat := four (four (r ^^^ x.toNat))
def crcMore (s : Nat) (b : List UInt8) : Nat := 4294967295 - b.foldl crcByte (4294967295 - s)
def crc (b : List UInt8) : Nat := crcMore 0 b
def tail4 (n : Nat) : List UInt8 := [UInt8.ofNat n, UInt8.ofNat (n / 256), UInt8.ofNat (n / 65536), UInt8.ofNat (n / 16777216)]
def close (b : List UInt8) : List UInt8 := b ++ tail4 (crc b)
def zeros (n : Nat) : List UInt8 := List.replicate n 0
def pad (b : List UInt8) : List UInt8 := b ++ zeros (512 - b.length)
def full (b : List UInt8) : List UInt8 := b ++ zeros ((512 - b.length % 512) % 512)
def chunks (k : Nat) (b : List UInt8) : List (List UInt8) :=
  if h : b = [] ∨ k = 0 then [] else b.take k :: chunks k (b.drop k)
  termination_by b.length
  decreasing_by
    simp only [not_or] at h
    have : 0 < b.length := List.length_pos_iff.2 h.1
    rw [List.length_drop]; omega

structure Dk where
  last : List (List UInt8)
  waits : List (Nat × List UInt8)
  left : Int
  off : Bool
  steps : Int
def Dk.new (n : Nat) : Dk := ⟨List.replicate n (zeros 512), [], -1, false, 0⟩
def Dk.now (d : Dk) (i : Nat) : List UInt8 := ((d.waits.reverse.find? fun x => x.1 == i).map (·.2)).getD (d.last.getD i [])
def Dk.spend (d : Dk) : Dk × Int := if d.left = 0 then ({ d with off := true }, 8) else ({ d with left := if 0 < d.left then d.left - 1 else d.left, steps := d.steps + 1 }, 0)
def Dk.write (d : Dk) (i : Int) (b : List UInt8) : Dk × Int :=
  if d.off = true then (d, 8)
  else if ¬ (0 ≤ i ∧ i < d.last.length) ∨ b.length ≠ 512 then (d, 1)
  else if d.spend.2 ≠ 0 then d.spend
  else ({ d.spend.1 with waits := d.waits ++ [(i.toNat, b)] }, 0)
def settle : List (List UInt8) → List (Nat × List UInt8) → (Nat → Bool) → Nat → List (List UInt8)
  | last, [], _, _ => last
  | last, x :: l, p, i => settle (if p i = true then last.set x.1 x.2 else last) l p (i + 1)
def Dk.barrier (d : Dk) : Dk × Int :=
  if d.off = true then (d, 8)
  else if d.spend.2 ≠ 0 then d.spend
  else ({ d.spend.1 with last := settle d.last d.waits (fun _ => true) 0, waits := [] }, 0)
def Dk.read (d : Dk) (i : Int) : List UInt8 × Int :=
  if d.off = true then ([], 8) else if ¬ (0 ≤ i ∧ i < d.last.length) then ([], 1) else (d.now i.toNat, 0)
def Dk.arm (d : Dk) (n : Int) : Dk := { d with left := max n 0 }
def Dk.crash (d : Dk) (picks : List Int) : Dk := { d with last := settle d.last d.waits (fun i => decide (i < picks.length ∧ picks.getD i 0 % 2 = 1)) 0, waits := [], off := false, left := -1 }
def Dk.copy (d : Dk) : Dk := ⟨d.last, [], -1, false, 0⟩

def DM (α : Type) : Type := Dk → Except Int α × Dk
def DM.ret {α : Type} (a : α) : DM α := fun d => (.ok a, d)
def DM.no {α : Type} (e : Int) : DM α := fun d => (.error e, d)
def DM.andThen {α β : Type} (m : DM α) (f : α → DM β) : DM β := fun d => match m d with
  | (.ok a, d') => f a d'
  | (.error e, d') => (.error e, d')
def writeD (i : Int) (b : List UInt8) : DM Unit := fun d => if (d.write i b).2 = 0 then (.ok (), (d.write i b).1) else (.error (d.write i b).2, (d.write i b).1)
def barrierD : DM Unit := fun d => if d.barrier.2 = 0 then (.ok (), d.barrier.1) else (.error d.barrier.2, d.barrier.1)
def readD (i : Int) : DM (List UInt8) := fun d => if (d.read i).2 = 0 then (.ok (d.read i).1, d) else (.error (d.read i).2, d)
def writesD : Int → List (List UInt8) → DM Unit
  | _, [] => DM.ret ()
  | i, b :: l => (writeD i b).andThen fun _ => writesD (i + 1) l

def logHead (age : Int) : List UInt8 := close ([76, 71] ++ num age)
def logFirst (age n : Int) (b : List UInt8) : List UInt8 := 72 :: close (num age ++ num n ++ num b.length ++ num (crc b : Nat))
def mostAge : Int := 4611686018427387904
def ageOf (s : List UInt8) : Int :=
  if s.take 2 = [76, 71] then
    if (rn 1 mostAge (s.drop 2) 0).1 ≠ 0 ∧ s = pad (logHead (rn 1 mostAge (s.drop 2) 0).1) ∧ (logHead (rn 1 mostAge (s.drop 2) 0).1).length ≤ 512 then (rn 1 mostAge (s.drop 2) 0).1 else 0
  else 0
def need (n : Nat) : Nat := 1 + (n + 510) / 511
structure Lg where
  first : Nat
  count : Nat
  age : Int
  next : Int
  at' : Nat
def logFormat (first count : Nat) : DM Unit :=
  (writesD ((first : Int) + 1) (List.replicate (count - 1) (zeros 512))).andThen fun _ => barrierD.andThen fun _ => (writeD first (pad (logHead 1))).andThen fun _ => barrierD
def Lg.append (l : Lg) (b : List UInt8) : DM Lg :=
  if 16777216 < b.length then DM.no 4
  else if l.count < l.at' + need b.length then DM.no 7
  else (writesD ((l.first + l.at' + 1 : Nat) : Int) ((chunks 511 b).map fun p => pad (68 :: p))).andThen fun _ => barrierD.andThen fun _ => (writeD ((l.first + l.at' : Nat) : Int) (pad (logFirst l.age l.next b))).andThen fun _ => barrierD.andThen fun _ =>
    DM.ret { l with at' := l.at' + need b.length, next := l.next + 1 }
def Lg.truncate (l : Lg) : DM Lg :=
  (writeD (((l.first : Nat) : Int) + (1 - (l.age + 1) % 2)) (pad (logHead (l.age + 1)))).andThen fun _ => barrierD.andThen fun _ => DM.ret { l with age := l.age + 1, next := 0, at' := 2 }
def Lg.room (l : Lg) : Int := if l.count ≤ l.at' then -1 else min (((l.count : Int) - l.at' - 1) * 511) 16777216
def parts (s : Nat → List UInt8) : Nat → Nat → Nat → List UInt8 → Option (List UInt8)
  | 0, _, _, b => some b
  | f + 1, k, size, b =>
    if (s k).take 1 = [68] ∧ s k = pad ((s k).take (1 + min 511 (size - b.length))) then parts s f (k + 1) size (b ++ ((s k).take (1 + min 511 (size - b.length))).drop 1) else none
def recordAt (s : Nat → List UInt8) (count : Nat) (age next : Int) (at' : Nat) : Option (List UInt8) :=
  if (s at').take 1 = [72] then
    let a := rn 1 mostAge ((s at').drop 1) 0
    let n := rn 0 mostAge a.2.1 a.2.2
    let z := rn 0 16777216 n.2.1 n.2.2
    let c := rn 0 4294967296 z.2.1 z.2.2
    if c.2.2 ≠ 0 ∨ a.1 ≠ age ∨ n.1 ≠ next ∨ count < at' + need z.1.toNat then none
    else match parts s (need z.1.toNat - 1) (at' + 1) z.1.toNat [] with
      | none => none
      | some b => if s at' = pad (logFirst age next b) ∧ (logFirst age next b).length ≤ 512 then some b else none
  else none
def records (s : Nat → List UInt8) (count : Nat) (age : Int) : Nat → Int → Nat → List (List UInt8) × Int × Nat
  | 0, next, at' => ([], next, at')
  | f + 1, next, at' => if at' < count then match recordAt s count age next at' with
      | none => ([], next, at')
      | some b => (b :: (records s count age f (next + 1) (at' + need b.length)).1, (records s count age f (next + 1) (at' + need b.length)).2)
    else ([], next, at')

abbrev Objs := List (Int × List UInt8)
def oDel (id : Int) (l : Objs) : Objs := l.filter fun x => x.1 ≠ id
def oIns (id : Int) (b : List UInt8) : Objs → Objs
  | [] => [(id, b)]
  | x :: l => if id < x.1 then (id, b) :: x :: l else x :: oIns id b l
def oPut (id : Int) (b : List UInt8) (l : Objs) : Objs := oIns id b (oDel id l)
def oGet (l : Objs) (id : Int) : Option (List UInt8) := (l.find? fun x => x.1 == id).map (·.2)
def objsBytes : Objs → List UInt8
  | [] => []
  | x :: l => num x.1 ++ str x.2 ++ objsBytes l
def image (o : Objs) (next : Int) : List UInt8 := num next ++ num o.length ++ objsBytes o
structure Hd2 where
  turn : Int
  half : Int
  size : Int
  sum : Int
  age : Int
def Hd2.bytes (h : Hd2) : List UInt8 := close ([83, 84] ++ num h.turn ++ num h.half ++ num h.size ++ num h.sum ++ num h.age)
def noHd : Hd2 := ⟨0, 0, 0, 0, 0⟩
def readHd (b : List UInt8) : Hd2 :=
  if b.take 2 = [83, 84] then
    let t := rn 1 mostAge (b.drop 2) 0
    let f := rn 0 1 t.2.1 t.2.2
    let z := rn 0 67108864 f.2.1 f.2.2
    let s := rn 0 4294967296 z.2.1 z.2.2
    let a := rn 1 mostAge s.2.1 s.2.2
    if a.2.2 = 0 ∧ full (Hd2.bytes ⟨t.1, f.1, z.1, s.1, a.1⟩) = b then ⟨t.1, f.1, z.1, s.1, a.1⟩ else noHd
  else noHd
def readObjs (dec : List UInt8 → Bool) (next : Int) : Nat → Int → List UInt8 → Int → Option (Objs × List UInt8)
  | 0, _, b, x => if x = 0 then some ([], b) else none
  | f + 1, last, b, x =>
    let i := rn (last + 1) (next - 1) b x
    let s := rs 16384 i.2.1 i.2.2
    if dec s.1 = true ∧ s.2.2 = 0 then (readObjs dec next f i.1 s.2.1 s.2.2).map fun p => ((i.1, s.1) :: p.1, p.2) else none
def readImage (dec : List UInt8 → Bool) (b : List UInt8) : Option (Objs × Int) :=
  let n := rn 1 2199023255552 b 0
  let c := rn 0 67108864 n.2.1 n.2.2
  match readObjs dec n.1 c.1.toNat 0 c.2.1 c.2.2 with
  | none => none
  | some p => if p.2 = [] then some (p.1, n.1) else none
def replayObjs (dec : List UInt8 → Bool) (next : Int) : Nat → List UInt8 → Int → Objs → Option (Objs × List UInt8 × Int)
  | 0, b, x, o => some (o, b, x)
  | f + 1, b, x, o =>
    let i := rn 1 1099511627776 b x
    let t := rn 0 1 i.2.1 i.2.2
    let s := rs 16384 t.2.1 t.2.2
    if t.1 = 1 then
      if dec s.1 = true ∧ s.2.2 = 0 ∧ i.1 < next then replayObjs dec next f s.2.1 s.2.2 (oPut i.1 s.1 o) else none
    else if t.2.2 = 0 ∧ i.1 < next then replayObjs dec next f t.2.1 t.2.2 (oDel i.1 o) else none
def replay (dec : List UInt8 → Bool) (b : List UInt8) (o : Objs) (next : Int) : Option (Objs × Int) :=
  let n := rn 1 2199023255552 b 0
  let c := rn 1 67108864 n.2.1 n.2.2
  match replayObjs dec n.1 c.1.toNat c.2.1 c.2.2 o with
  | none => none
  | some p => if p.2.2 = 0 ∧ p.2.1 = [] then some (p.1, max next n.1) else none
def replays (dec : List UInt8 → Bool) : List (List UInt8) → Objs → Int → Option (Objs × Int)
  | [], o, n => some (o, n)
  | b :: l, o, n => match replay dec b o n with
    | none => none
    | some p => replays dec l p.1 p.2
structure Sto where
  objs : Objs
  next : Int
  hd : Hd2
  log : Lg
  count : Nat
  each : Nat
def Sto.room (s : Sto) : Nat := s.each * 512
def Sto.size (s : Sto) : Nat := (image s.objs s.next).length
def layT (sectors : Nat) (log : Int) : Option (Nat × Nat) :=
  if log < 3 ∨ (sectors : Int) < log then none
  else if ((sectors : Int) - 2 - log).tdiv 2 < 1 then none else some (log.toNat, (((sectors : Int) - 2 - log).tdiv 2).toNat)
def laid (count each : Nat) (o : Objs) (next : Int) (h : Hd2) : DM Hd2 :=
  let b := image o next
  let h' : Hd2 := { h with size := b.length, sum := (crc b : Nat) }
  (writesD (((2 + count : Nat) : Int) + h.half * each) (chunks 512 (full b))).andThen fun _ => barrierD.andThen fun _ => (writeD (1 - h.turn % 2) (full h'.bytes)).andThen fun _ => barrierD.andThen fun _ => DM.ret h'
def format (count each : Nat) : DM Unit :=
  (logFormat 2 count).andThen fun _ => (writeD 1 (zeros 512)).andThen fun _ => (laid count each [] 1 ⟨1, 0, 0, 0, 1⟩).andThen fun _ => DM.ret ()
def readsD : Int → Nat → DM (List UInt8)
  | _, 0 => DM.ret []
  | i, k + 1 => (readD i).andThen fun b => (readsD (i + 1) k).andThen fun l => DM.ret (b ++ l)
def laterHd (h : Hd2) (b : List UInt8) : Hd2 := if h.turn < (readHd b).turn then readHd b else h
def load (dec : List UInt8 → Bool) (count each : Nat) : DM (Hd2 × Objs × Int) :=
  (readD 0).andThen fun b0 => (readD 1).andThen fun b1 =>
    let h := laterHd (laterHd noHd b0) b1
    if h.turn = 0 ∨ (each : Int) * 512 < h.size then DM.no 9
    else (readsD (((2 + count : Nat) : Int) + h.half * each) ((h.size.toNat + 511) / 512)).andThen fun b =>
      match readImage dec (b.take h.size.toNat) with
      | none => DM.no 9
      | some p => if ((crc (b.take h.size.toNat) : Nat) : Int) = h.sum then DM.ret (h, p.1, p.2) else DM.no 9
def truncates : Nat → Int → Lg → DM Lg
  | 0, _, l => DM.ret l
  | f + 1, age, l => if l.age < age then l.truncate.andThen fun l' => truncates f age l' else DM.ret l
def logOpen (count : Nat) : DM (Lg × List (List UInt8)) := fun d =>
  if d.off = true then (.error 8, d)
  else
    let a := max (max 0 (ageOf (d.now 2))) (ageOf (d.now 3))
    if a = 0 then (.error 9, d)
    else
      let r := records (fun i => d.now (2 + i)) count a count 0 2
      (.ok (⟨2, count, a, r.2.1, r.2.2⟩, r.1), d)
def openT (dec : List UInt8 → Bool) (count each : Nat) : DM Sto :=
  (load dec count each).andThen fun p => (logOpen count).andThen fun q =>
    (truncates (p.1.age - q.1.age).toNat p.1.age q.1).andThen fun l =>
      match replays dec (if q.1.age < p.1.age then [] else q.2) p.2.1 p.2.2 with
      | none => DM.no 9
      | some r => DM.ret ⟨r.1, r.2, p.1, l, count, each⟩
abbrev Ch := Int × Option (Except Int (List UInt8))
def withT : List Ch → Objs → Int → List UInt8 → Except Int (Objs × Int × List UInt8)
  | [], o, n, r => .ok (o, n, r)
  | c :: l, o, n, r => match c.2 with
    | none => withT l (oDel c.1 o) (max n (c.1 + 1)) (r ++ num c.1 ++ num 0)
    | some (.error e) => .error e
    | some (.ok b) => withT l (oPut c.1 b o) (max n (c.1 + 1)) (r ++ num c.1 ++ (num 1 ++ str b))
def Sto.turnOver (s : Sto) (o : Objs) (next : Int) : DM Sto :=
  (laid s.count s.each o next ⟨s.hd.turn + 1, 1 - s.hd.half, 0, 0, s.log.age + 1⟩).andThen fun h => s.log.truncate.andThen fun l => DM.ret { s with objs := o, next := next, hd := h, log := l }
def Sto.apply (s : Sto) (l : List Ch) : DM Sto :=
  if l = [] then DM.ret s
  else if l.any (fun c => decide (c.1 < 1 ∨ 1099511627776 < c.1)) then DM.no 1
  else match withT l s.objs s.next [] with
    | .error e => DM.no e
    | .ok p =>
      let r := num p.2.1 ++ num l.length ++ p.2.2
      if s.room < (image p.1 p.2.1).length ∨ s.count < 2 + need r.length then DM.no 7
      else (if s.log.room < r.length then s.turnOver s.objs s.next else DM.ret s).andThen fun s' => (s'.log.append r).andThen fun l' => DM.ret { s' with objs := p.1, next := p.2.1, log := l' }
end St
end Go.Proofs.YtcpgbekcbaelpaaGreatDoor
/- Layer 7: the program's sums. -/
namespace Go.Proofs.YtcpgbekcbaelpaaGreatDoor
open Go.RowKit Go.Maps Wr
set_option linter.unusedVariables false
set_option linter.unusedSimpArgs false
def Half (w : World) : Prop := ∀ i, i < 16 → w.cell? ⟨0, i, none⟩ = some (.int .u32 ((St.halfT.getD i 0 : Nat) : Int))
theorem half_lt {w : World} {q j : Nat} {v : Value} (h : w.cell? ⟨q, j, none⟩ = some v) : q < w.heap.size := by
  rcases Nat.lt_or_ge q w.heap.size with hlt | hge
  · exact hlt
  · unfold World.cell? at h; rw [Array.getElem?_eq_none hge] at h; cases h
theorem xor_u32 (a b : Nat) (ha : a ≤ 4294967295) (hb : b ≤ 4294967295) : bits .xor .u32 (a : Int) (b : Int) = ((a ^^^ b : Nat) : Int) := by
  have hx : a ^^^ b < 2 ^ 32 := Nat.xor_lt_two_pow (by omega) (by omega)
  show IntKind.u32.wrap (((BitVec.ofInt 32 (a : Int) ^^^ BitVec.ofInt 32 (b : Int)).toNat : Nat) : Int) = _
  rw [BitVec.ofInt_natCast, BitVec.ofInt_natCast, BitVec.toNat_xor, BitVec.toNat_ofNat, BitVec.toNat_ofNat, Nat.mod_eq_of_lt (show a < 2 ^ 32 by omega), Nat.mod_eq_of_lt (show b < 2 ^ 32 by omega), IntKind.wrap_u32]
  omega
theorem xor_u32_le {a b : Nat} (ha : a ≤ 4294967295) (hb : b ≤ 4294967295) : a ^^^ b ≤ 4294967295 := by
  have hx : a ^^^ b < 2 ^ 32 := Nat.xor_lt_two_pow (by omega) (by omega)
  omega
theorem and15_u32 (u : Nat) (h : u ≤ 4294967295) : bits .and .u32 (u : Int) 15 = ((u % 16 : Nat) : Int) := by
  show IntKind.u32.wrap (((BitVec.ofInt 32 (u : Int) &&& BitVec.ofInt 32 15).toNat : Nat) : Int) = _
  rw [BitVec.ofInt_natCast, BitVec.toNat_and, BitVec.toNat_ofNat, show (BitVec.ofInt 32 15).toNat = 15 by decide, Nat.mod_eq_of_lt (by omega)]
  rw [show (15 : Nat) = 2 ^ 4 - 1 from rfl, Nat.and_two_pow_sub_one_eq_mod, IntKind.wrap_u32]
  omega
theorem not_u32 (x : Nat) (hx : x ≤ 4294967295) : bits .xor .u32 IntKind.u32.max (x : Int) = ((4294967295 - x : Nat) : Int) := by
  show IntKind.u32.wrap (((BitVec.ofInt 32 IntKind.u32.max ^^^ BitVec.ofInt 32 (x : Int)).toNat : Nat) : Int) = _
  rw [show BitVec.ofInt 32 IntKind.u32.max = BitVec.allOnes 32 by decide, BitVec.allOnes_xor, BitVec.toNat_not]
  have : (BitVec.ofInt 32 (x : Int)).toNat = x := by rw [BitVec.ofInt_natCast, BitVec.toNat_ofNat]; omega
  rw [this, IntKind.wrap_u32]
  omega
theorem halfT_le (i : Nat) : St.halfT.getD i 0 ≤ 4294967295 := by
  have h : ∀ x ∈ St.halfT, x ≤ 4294967295 := by decide
  rw [List.getD_eq_getElem?_getD]
  cases e : St.halfT[i]? with
  | none => simp
  | some y => exact h y (List.mem_of_getElem? e)
theorem four_u32 (r : Nat) (hr : r ≤ 4294967295) : bits .xor .u32 ((r : Int) / 16) ((St.halfT.getD (r % 16) 0 : Nat) : Int) = ((St.four r : Nat) : Int) ∧ St.four r ≤ 4294967295 := by
  have hh := halfT_le (r % 16)
  have e : ((r : Int) / 16) = ((r / 16 : Nat) : Int) := by omega
  rw [e]
  exact ⟨xor_u32 _ _ (by omega) hh, xor_u32_le (by omega) hh⟩
theorem Half.below {w w' : World} (h : Half w) (hb : Below w.heap.size w w') : Half w' := fun i hi => (hb.cell (p := ⟨0, i, none⟩) (half_lt (h i hi))).trans (h i hi)
def CrcI (b : List UInt8) (s0 : Nat) (w : World) (gk : Nat) (s3 s4 : Value) (wr : World) : Prop :=
  ∃ (i r : Nat), s4 = .int .i64 (i : Int) ∧ i + gk = b.length ∧ s3 = .int .u32 (r : Int) ∧ r ≤ 4294967295 ∧ (b.drop i).foldl St.crcByte r = b.foldl St.crcByte s0 ∧ w = wr
set_option maxRecDepth 100000 in
set_option maxHeartbeats 1600000 in
theorem crcMore_any (b : List UInt8) (s : Nat) (hs : s ≤ 4294967295) (w : World) (M : Nat) (v : Value) (hT : Half w) (hb : ByteRow w M v b) (hl : b.length ≤ 1000000000) :
    Calls Tryz.prog 147 #[.int .u32 (s : Int), v] w fun e w' => e = .returned (.int .u32 ((St.crcMore s b : Nat) : Int)) ∧ w = w' := by
  have HT := Lib.hid hT
  have HB := Lib.hid hb
  obtain ⟨ao, cap, rfl, hc⟩ : ∃ ao cap, v = .slice ao b.length cap ∧ ∀ i (h : i < b.length), ∃ g, ao = some ⟨g, 0, none⟩ ∧ w.cell? ⟨g, i, none⟩ = some (.int .u8 ((b.getD i 0).toNat : Int)) := by
    rcases hb.1.2 with ⟨hv, hn⟩ | ⟨g, cap, cur, hv, _⟩
    · rw [bvals_length] at hn
      exact ⟨none, 0, by rw [hv, hn], fun i h => by omega⟩
    · rw [bvals_length] at hv
      refine ⟨some ⟨g, 0, none⟩, cap, hv, fun i h => ⟨g, rfl, ?_⟩⟩
      subst hv
      rw [hb.1.cellAt i (by rw [bvals_length]; exact h)]
      unfold bvals
      rw [List.getElem?_map, List.getElem?_eq_getElem h]
      simp [List.getD_eq_getElem?_getD, h]
  have HC := Lib.hid hc
  have hl2 : (b.length : Int) ≤ 1000000000 := by omega
  clear hc hT hb
  go_enter Tryz.func147, Tryz.ntmps147
  have hsg : ¬ IntKind.u32.signed = true := by decide
  go_wp2
  have hns := not_u32 s hs
  go_loopg [5, 12] b.length (fun gk s5 s12 wr => CrcI b (4294967295 - s) w gk s5 s12 wr)
  case atStart => exact ⟨0, 4294967295 - s, rfl, by omega, by rw [hns], by omega, rfl, rfl⟩
  case round =>
    obtain ⟨i, r, rfl, hik, rfl, hr, hf, rfl⟩ := hrel
    have HF := Lib.hid hf
    have HR := Lib.hid hr
    clear hf
    by_cases hlt : i < b.length
    · have g1 : (i : Int) < (b.length : Int) := by omega
      have g0 : (0 : Int) ≤ (i : Int) := by omega
      obtain ⟨g, rfl, p0⟩ := HC.out i hlt
      obtain ⟨x, hx⟩ : ∃ x, b.getD i 0 = x := ⟨_, rfl⟩
      rw [hx] at p0
      have hxb : x.toNat < 256 := x.toNat_lt
      obtain ⟨r1, hr1⟩ : ∃ r1, r ^^^ x.toNat = r1 := ⟨_, rfl⟩
      have hr1b : r1 ≤ 4294967295 := by rw [← hr1]; exact xor_u32_le hr (by omega)
      have e1 : bits .xor .u32 (r : Int) (x.toNat : Int) = (r1 : Int) := by
        rw [xor_u32 r x.toNat hr (by omega), hr1]
      obtain ⟨m1, hm1⟩ : ∃ m1, r1 % 16 = m1 := ⟨_, rfl⟩
      have hm1b : m1 < 16 := by omega
      have e2 : bits .and .u32 (r1 : Int) 15 = (m1 : Int) := by rw [and15_u32 r1 hr1b, hm1]
      have q1 := HT.out m1 hm1b
      have hfo := four_u32 r1 hr1b
      rw [hm1] at hfo
      obtain ⟨h1, hh1⟩ : ∃ h1, St.halfT.getD m1 0 = h1 := ⟨_, rfl⟩
      rw [hh1] at hfo q1
      obtain ⟨r2, hr2⟩ : ∃ r2, St.four r1 = r2 := ⟨_, rfl⟩
      rw [hr2] at hfo
      obtain ⟨e3, hr2b⟩ := hfo
      obtain ⟨m2, hm2⟩ : ∃ m2, r2 % 16 = m2 := ⟨_, rfl⟩
      have hm2b : m2 < 16 := by omega
      have e4 : bits .and .u32 (r2 : Int) 15 = (m2 : Int) := by rw [and15_u32 r2 hr2b, hm2]
      have q2 := HT.out m2 hm2b
      have hfo := four_u32 r2 hr2b
      rw [hm2] at hfo
      obtain ⟨h2, hh2⟩ : ∃ h2, St.halfT.getD m2 0 = h2 := ⟨_, rfl⟩
      rw [hh2] at hfo q2
      obtain ⟨r3, hr3⟩ : ∃ r3, St.four r2 = r3 := ⟨_, rfl⟩
      rw [hr3] at hfo
      obtain ⟨e5, hr3b⟩ := hfo
      have HN : Hid ((b.drop (i + 1)).foldl St.crcByte r3 = b.foldl St.crcByte (4294967295 - s)) := by
        show _ = _
        have hd : b.drop i = x :: b.drop (i + 1) := by
          rw [List.drop_eq_getElem_cons hlt]
          congr 1
          rw [← hx, List.getD_eq_getElem?_getD, List.getElem?_eq_getElem hlt]
          rfl
        have hc3 : St.crcByte r x = r3 := by unfold St.crcByte; rw [hr1, hr2, hr3]
        rw [← HF.out, hd, List.foldl_cons, hc3]
      have HR3 := Lib.hid hr3b
      have g2 : (m1 : Int) < 16 := by omega
      have g3 : (m2 : Int) < 16 := by omega
      clear hx hr1 hm1 hh1 hr2 hm2 hh2 hr3 hns
      go_wp2
      go_roundg (gk - 1)
      case measure => omega
      case rel => exact ⟨i + 1, r3, by go_num, by omega, rfl, HR3.out, HN.out, rfl⟩
    · have g1 : ¬ (i : Int) < (b.length : Int) := by omega
      have e : i = b.length := by omega
      have e6 := not_u32 r hr
      have HN : Hid (St.crcMore s b = 4294967295 - r) := by
        have := HF.out
        rw [List.drop_of_length_le (by omega)] at this
        show St.crcMore s b = 4294967295 - r
        unfold St.crcMore
        rw [← this]
        rfl
      clear hns
      go_wp2
      go_ret
      rw [HN.out]
      exact ⟨rfl, rfl⟩
end Go.Proofs.YtcpgbekcbaelpaaGreatDoor
/- Layer 7: a sum of one part; its bytes. -/
namespace Go.Proofs.YtcpgbekcbaelpaaGreatDoor
open Go.RowKit Go.Maps Wr
set_option linter.unusedVariables false
set_option linter.unusedSimpArgs false
def SumI (c : Nat) (w : World) (gk : Nat) (s3 s4 : Value) (wr : World) : Prop :=
  ∃ i : Nat, s4 = .int .i64 (i : Int) ∧ i + gk = 1 ∧ s3 = .int .u32 ((if i = 0 then 0 else c : Nat) : Int) ∧ w = wr
set_option maxRecDepth 100000 in
set_option maxHeartbeats 1600000 in
theorem crcSum_any (b : List UInt8) (w : World) (M : Nat) (v : Value) (g : Nat) (hT : Half w) (hb : ByteRow w M v b) (hl : b.length ≤ 1000000000) (hg : w.cell? ⟨g, 0, none⟩ = some v) :
    Calls Tryz.prog 103 #[.slice (some ⟨g, 0, none⟩) 1 1] w fun e w' => e = .returned (.int .u32 ((St.crc b : Nat) : Int)) ∧ w = w' := by
  have HM : Hid (Calls Tryz.prog 147 #[.int .u32 0, v] w fun e w' => e = .returned (.int .u32 ((St.crc b : Nat) : Int)) ∧ w = w') := crcMore_any b 0 (by omega) w M v hT hb hl
  clear hT hb hl
  go_enter Tryz.func103, Tryz.ntmps103
  go_wp2
  go_loopg [3, 8] 1 (fun gk s3 s8 wr => SumI (St.crc b) w gk s3 s8 wr)
  case atStart => exact ⟨0, rfl, rfl, rfl, rfl⟩
  case round =>
    obtain ⟨i, rfl, hik, rfl, rfl⟩ := hrel
    by_cases h0 : i = 0
    · subst h0
      simp only [if_pos]
      go_wp2_with (go_at_call 147; refine HM.out.mono ?_; rintro e w1 ⟨rfl, rfl⟩)
      go_roundg 0
      case measure => omega
      case rel => exact ⟨1, rfl, rfl, rfl, rfl⟩
    · have e1 : i = 1 := by omega
      subst e1
      go_wp2
      go_ret
      exact ⟨rfl, rfl⟩
theorem tail_bytes (n : Nat) (hn : n ≤ 4294967295) : (UInt8.ofNat n).toNat = n % 256 ∧ (UInt8.ofNat (n / 256)).toNat = n / 256 % 256 ∧ (UInt8.ofNat (n / 65536)).toNat = n / 65536 % 256 ∧ (UInt8.ofNat (n / 16777216)).toNat = n / 16777216 % 256 := by
  simp [UInt8.toNat_ofNat']
set_option maxRecDepth 100000 in
theorem crcTail_any (n : Nat) (hn : n ≤ 4294967295) (w : World) :
    Calls Tryz.prog 174 #[.int .u32 (n : Int)] w fun e w' => RowEnd w w.heap.size (St.tail4 n) e w' := by
  obtain ⟨t0, t1, t2, t3⟩ := tail_bytes n hn
  have b0 : (n : Int) % 256 = ((UInt8.ofNat n).toNat : Int) := by rw [t0]; omega
  have b1 : (n : Int) / 256 % 256 = ((UInt8.ofNat (n / 256)).toNat : Int) := by rw [t1]; omega
  have b2 : (n : Int) / 65536 % 256 = ((UInt8.ofNat (n / 65536)).toNat : Int) := by rw [t2]; omega
  have b3 : (n : Int) / 16777216 = ((UInt8.ofNat (n / 16777216)).toNat : Int) := by rw [t3]; omega
  have HB := Lib.hid (⟨b0, b1, b2, b3⟩ : _ ∧ _ ∧ _ ∧ _)
  clear b0 b1 b2 b3 t0 t1 t2 t3
  go_enter Tryz.func174, Tryz.ntmps174
  go_wp2
  go_ret
  obtain ⟨b0, b1, b2, b3⟩ := HB.out
  rw [b1, b2, b3, b0]
  refine ⟨.slice (some ⟨w.heap.size, 0, none⟩) 4 4, rfl, ⟨⟨rfl, .inr ⟨w.heap.size, 4, _, rfl, Nat.zero_le _, heap_alloc_new w _, Nat.le_refl _, by unfold maxLen; omega, rfl, rfl⟩⟩, fun k hk => by simp only [Value.ownBlock, Option.some.injEq] at hk; omega⟩, (Below.refl _ _).alloc (Nat.le_refl _) _⟩
end Go.Proofs.YtcpgbekcbaelpaaGreatDoor
/- Layers 5 and 7 in plain words: what was written is read again. No program in sight. -/
namespace Go.Proofs.YtcpgbekcbaelpaaGreatDoor
open Wr
set_option linter.unusedVariables false
set_option linter.unusedSimpArgs false
namespace St
theorem rn_full {lo hi n : Int} (r : List UInt8) (h1 : lo ≤ n) (h2 : n ≤ hi) (h3 : -9223372036854775808 ≤ lo) (h4 : hi ≤ 9223372036854775807) : rn lo hi (num n ++ r) 0 = (n, r, 0) := rn_ok (rdNum_full r h1 h2 (by omega) (by omega))
theorem rs_full {hi : Int} (s r : List UInt8) (h : (s.length : Int) ≤ hi) (h2 : hi ≤ 1000000000) : rs hi (str s ++ r) 0 = (s, r, 0) := by
  unfold rs
  have e : rn 0 hi (str s ++ r) 0 = ((s.length : Int), s ++ r, 0) := by
    unfold str
    rw [List.append_assoc]
    exact rn_full _ (by omega) h (by omega) (by omega)
  rw [e]
  simp only [if_true]
  rw [if_neg (by rw [List.length_append]; omega), Int.toNat_natCast, List.take_left, List.drop_left]
theorem zeros_len (n : Nat) : (zeros n).length = n := by simp [zeros]
theorem pad_len {b : List UInt8} (h : b.length ≤ 512) : (pad b).length = 512 := by unfold pad; rw [List.length_append, zeros_len]; omega
theorem tail4_len (n : Nat) : (tail4 n).length = 4 := rfl
theorem close_len (b : List UInt8) : (close b).length = b.length + 4 := by unfold close; rw [List.length_append, tail4_len]
theorem full_len (b : List UInt8) : (full b).length % 512 = 0 := by unfold full; rw [List.length_append, zeros_len]; omega
theorem full_pad {b : List UInt8} (h : b.length ≤ 512) (h0 : 0 < b.length) : full b = pad b := by
  unfold full pad
  congr 2
  by_cases e : b.length = 512
  · rw [e]
  · rw [Nat.mod_eq_of_lt (by omega), Nat.mod_eq_of_lt (by omega)]
structure Hd2.Ok (h : Hd2) : Prop where
  t1 : 1 ≤ h.turn
  t2 : h.turn ≤ 4611686018427387904
  f1 : 0 ≤ h.half
  f2 : h.half ≤ 1
  z1 : 0 ≤ h.size
  z2 : h.size ≤ 67108864
  s1 : 0 ≤ h.sum
  s2 : h.sum ≤ 4294967296
  a1 : 1 ≤ h.age
  a2 : h.age ≤ 4611686018427387904
theorem readHd_full {h : Hd2} (o : h.Ok) : readHd (full h.bytes) = h := by
  obtain ⟨t, f, z, s, a⟩ := h
  have e : full (Hd2.bytes ⟨t, f, z, s, a⟩) = [83, 84] ++ (num t ++ (num f ++ (num z ++ (num s ++ (num a ++ (tail4 (crc ([83, 84] ++ num t ++ num f ++ num z ++ num s ++ num a)) ++ zeros ((512 - (Hd2.bytes ⟨t, f, z, s, a⟩).length % 512) % 512))))))) := by
    unfold full
    simp only [Hd2.bytes, close, List.append_assoc]
  generalize hw : full (Hd2.bytes ⟨t, f, z, s, a⟩) = w at e ⊢
  unfold readHd
  have e2 : w.drop 2 = num t ++ (num f ++ (num z ++ (num s ++ (num a ++ (tail4 (crc ([83, 84] ++ num t ++ num f ++ num z ++ num s ++ num a)) ++ zeros ((512 - (Hd2.bytes ⟨t, f, z, s, a⟩).length % 512) % 512)))))) := by rw [e]; rfl
  rw [if_pos (by rw [e]; rfl), e2]
  generalize tail4 (crc ([83, 84] ++ num t ++ num f ++ num z ++ num s ++ num a)) ++ zeros ((512 - (Hd2.bytes ⟨t, f, z, s, a⟩).length % 512) % 512) = q
  simp only [rn_full (lo := 1) (hi := mostAge) _ o.t1 o.t2 (by decide) (by decide), rn_full (lo := 0) (hi := 1) _ o.f1 o.f2 (by decide) (by decide), rn_full (lo := 0) (hi := 67108864) _ o.z1 o.z2 (by decide) (by decide), rn_full (lo := 0) (hi := 4294967296) _ o.s1 o.s2 (by decide) (by decide), rn_full (lo := 1) (hi := mostAge) _ o.a1 o.a2 (by decide) (by decide)]
  rw [if_pos (by simp [hw])]
theorem readObjs_full {dec : List UInt8 → Bool} {next : Int} (hn : next ≤ 2199023255552) : ∀ (o : Objs) (last : Int) (r : List UInt8), 0 ≤ last → (∀ x ∈ o, last < x.1 ∧ x.1 < next ∧ dec x.2 = true ∧ x.2.length ≤ 16384) → o.Pairwise (fun x y => x.1 < y.1) → readObjs dec next o.length last (objsBytes o ++ r) 0 = some (o, r)
  | [], last, r, _, _, _ => rfl
  | x :: o, last, r, h0, h, hp => by
    obtain ⟨h1, h2, h3, h4⟩ := h x (List.mem_cons_self ..)
    have hc := List.pairwise_cons.1 hp
    have e1 : objsBytes (x :: o) ++ r = num x.1 ++ (str x.2 ++ (objsBytes o ++ r)) := by simp only [objsBytes, List.append_assoc]
    rw [e1, List.length_cons, readObjs]
    simp only [rn_full (lo := last + 1) (hi := next - 1) _ (show last + 1 ≤ x.1 by omega) (show x.1 ≤ next - 1 by omega) (by omega) (by omega), rs_full x.2 _ (show (x.2.length : Int) ≤ 16384 by omega) (by omega), h3, and_self, if_true]
    rw [readObjs_full hn o x.1 r (by omega) (fun y hy => ⟨hc.1 y hy, (h y (List.mem_cons_of_mem _ hy)).2⟩) hc.2]
    rfl
structure ObjsOk (dec : List UInt8 → Bool) (o : Objs) (next : Int) : Prop where
  sorted : o.Pairwise (fun x y => x.1 < y.1)
  each : ∀ x ∈ o, 0 < x.1 ∧ x.1 < next ∧ dec x.2 = true ∧ x.2.length ≤ 16384
  n1 : 1 ≤ next
  n2 : next ≤ 2199023255552
  cnt : o.length ≤ 67108864
theorem readImage_full {dec : List UInt8 → Bool} {o : Objs} {next : Int} (h : ObjsOk dec o next) : readImage dec (image o next) = some (o, next) := by
  unfold readImage image
  have h1 := h.n1
  have h2 := h.n2
  have h3 := h.cnt
  rw [List.append_assoc]
  simp only [rn_full (lo := 1) (hi := 2199023255552) _ h1 h2 (by decide) (by decide), rn_full (lo := 0) (hi := 67108864) _ (show (0 : Int) ≤ (o.length : Int) by omega) (show (o.length : Int) ≤ 67108864 by omega) (by decide) (by decide), Int.toNat_natCast]
  have := readObjs_full (dec := dec) h2 o 0 [] (by omega) h.each h.sorted
  rw [List.append_nil] at this
  rw [this]
  rfl
theorem rn_nil (lo hi x : Int) : ∃ e, e ≠ 0 ∧ rn lo hi [] x = (0, [], e) := by
  unfold rn
  split
  · have : rdNum lo hi [] = .error 3 := rfl
    rw [this]
    exact ⟨3, by decide, rfl⟩
  · rename_i h; exact ⟨x, h, rfl⟩
def chBytes (c : Ch) : List UInt8 := match c.2 with
  | none => num c.1 ++ num 0
  | some (.error _) => []
  | some (.ok b) => num c.1 ++ (num 1 ++ str b)
theorem withT_bytes : ∀ (l : List Ch) (o : Objs) (n : Int) (r : List UInt8) (p : Objs × Int × List UInt8), withT l o n r = .ok p → p.2.2 = r ++ l.flatMap chBytes ∧ n ≤ p.2.1 ∧ ∀ c ∈ l, c.1 + 1 ≤ p.2.1
  | [], o, n, r, p, h => by
    rw [withT] at h
    cases h
    exact ⟨by simp, Int.le_refl _, fun c hc => by cases hc⟩
  | c :: l, o, n, r, p, h => by
    obtain ⟨id, x⟩ := c
    rw [withT] at h
    match x, h with
    | none, h =>
      simp only at h
      obtain ⟨h1, h2, h3⟩ := withT_bytes l _ _ _ p h
      refine ⟨by rw [h1, List.flatMap_cons]; simp [chBytes, List.append_assoc], by omega, fun c hc => ?_⟩
      rcases List.mem_cons.1 hc with rfl | hc
      · simp only; omega
      · exact h3 c hc
    | some (.error e), h => simp at h
    | some (.ok b), h =>
      simp only at h
      obtain ⟨h1, h2, h3⟩ := withT_bytes l _ _ _ p h
      refine ⟨by rw [h1, List.flatMap_cons]; simp [chBytes, List.append_assoc], by omega, fun c hc => ?_⟩
      rcases List.mem_cons.1 hc with rfl | hc
      · simp only; omega
      · exact h3 c hc
theorem replayObjs_full {dec : List UInt8 → Bool} {next : Int} : ∀ (l : List Ch) (o : Objs) (n : Int) (r q : List UInt8) (p : Objs × Int × List UInt8), withT l o n r = .ok p → (∀ c ∈ l, 1 ≤ c.1 ∧ c.1 ≤ 1099511627776 ∧ c.1 < next ∧ ∀ b, c.2 = some (.ok b) → dec b = true ∧ b.length ≤ 16384) →
    replayObjs dec next l.length (l.flatMap chBytes ++ q) 0 o = some (p.1, q, 0)
  | [], o, n, r, q, p, h, _ => by
    rw [withT] at h
    cases h
    rfl
  | c :: l, o, n, r, q, p, h, hc => by
    obtain ⟨id, x⟩ := c
    obtain ⟨c1, c2, c3, c4⟩ := hc (id, x) (List.mem_cons_self ..)
    simp only at c1 c2 c3 c4
    have hl := fun c h => hc c (List.mem_cons_of_mem _ h)
    rw [withT] at h
    match x, h, c4 with
    | none, h, _ =>
      simp only at h
      have ih := replayObjs_full l _ _ _ q p h hl
      have e : ((id, none) :: l : List Ch).flatMap chBytes ++ q = num id ++ (num 0 ++ (l.flatMap chBytes ++ q)) := by simp [chBytes, List.append_assoc]
      rw [e, List.length_cons, replayObjs]
      simp only [rn_full (lo := 1) (hi := 1099511627776) _ c1 c2 (by decide) (by decide), rn_full (lo := 0) (hi := 1) (n := 0) _ (by decide) (by decide) (by decide) (by decide), c3, and_self, if_true]
      rw [if_neg (by decide)]
      exact ih
    | some (.error e), h, _ => simp at h
    | some (.ok b), h, c4 =>
      simp only at h
      obtain ⟨d1, d2⟩ := c4 b rfl
      have ih := replayObjs_full l _ _ _ q p h hl
      have e : ((id, some (.ok b)) :: l : List Ch).flatMap chBytes ++ q = num id ++ (num 1 ++ (str b ++ (l.flatMap chBytes ++ q))) := by simp [chBytes, List.append_assoc]
      rw [e, List.length_cons, replayObjs]
      simp only [rn_full (lo := 1) (hi := 1099511627776) _ c1 c2 (by decide) (by decide), rn_full (lo := 0) (hi := 1) (n := 1) _ (by decide) (by decide) (by decide) (by decide), rs_full b _ (show (b.length : Int) ≤ 16384 by omega) (by omega), c3, d1, and_self, if_true]
      exact ih
theorem replay_full {dec : List UInt8 → Bool} {l : List Ch} {o : Objs} {n : Int} {p : Objs × Int × List UInt8} (h : withT l o n [] = .ok p) (hl : 1 ≤ l.length ∧ l.length ≤ 67108864) (hn : 1 ≤ n) (hn2 : p.2.1 ≤ 2199023255552)
    (hc : ∀ c ∈ l, 1 ≤ c.1 ∧ c.1 ≤ 1099511627776 ∧ ∀ b, c.2 = some (.ok b) → dec b = true ∧ b.length ≤ 16384) : replay dec (num p.2.1 ++ num l.length ++ p.2.2) o n = some (p.1, p.2.1) := by
  obtain ⟨h1, h2, h3⟩ := withT_bytes l o n [] p h
  rw [List.nil_append] at h1
  have := replayObjs_full (dec := dec) (next := p.2.1) l o n [] [] p h (fun c hcm => ⟨(hc c hcm).1, (hc c hcm).2.1, by have := h3 c hcm; omega, (hc c hcm).2.2⟩)
  rw [List.append_nil] at this
  unfold replay
  rw [List.append_assoc]
  simp only [rn_full (lo := 1) (hi := 2199023255552) _ (show 1 ≤ p.2.1 by omega) hn2 (by decide) (by decide), rn_full (lo := 1) (hi := 67108864) _ (show (1 : Int) ≤ (l.length : Int) by omega) (show (l.length : Int) ≤ 67108864 by omega) (by decide) (by decide), Int.toNat_natCast, h1, this]
  simp only [and_self, if_true]
  rw [show max n p.2.1 = p.2.1 by omega]
end St
end Go.Proofs.YtcpgbekcbaelpaaGreatDoor
/- Layer 5 in plain words: a log's records, written and read. No program in sight. -/
namespace Go.Proofs.YtcpgbekcbaelpaaGreatDoor
open Wr
set_option linter.unusedVariables false
set_option linter.unusedSimpArgs false
namespace St
theorem chunks_nil (k : Nat) : chunks k [] = [] := by rw [chunks, dif_pos (.inl rfl)]
theorem chunks_cons {k : Nat} {b : List UInt8} (hk : 0 < k) (hb : b ≠ []) : chunks k b = b.take k :: chunks k (b.drop k) := by
  rw [chunks, dif_neg (by simp [hb]; omega)]
theorem chunks_len {k : Nat} (hk : 0 < k) : ∀ (n : Nat) (b : List UInt8), b.length ≤ n → (chunks k b).length = (b.length + (k - 1)) / k
  | 0, b, h => by
    have : b = [] := List.length_eq_zero_iff.1 (by omega)
    subst this
    rw [chunks_nil]
    simp only [List.length_nil, Nat.zero_add]
    rw [Nat.div_eq_of_lt (by omega)]
  | n + 1, b, h => by
    by_cases hb : b = []
    · subst hb
      rw [chunks_nil]
      simp only [List.length_nil, Nat.zero_add]
      rw [Nat.div_eq_of_lt (by omega)]
    · have hp : 0 < b.length := List.length_pos_iff.2 hb
      rw [chunks_cons hk hb, List.length_cons, chunks_len hk n _ (by rw [List.length_drop]; omega), List.length_drop]
      by_cases hle : b.length ≤ k
      · rw [show b.length - k = 0 by omega, Nat.zero_add, Nat.div_eq_of_lt (by omega)]
        have : b.length + (k - 1) = k + (b.length - 1) := by omega
        rw [this, Nat.add_div_left _ hk, Nat.div_eq_of_lt (by omega)]
      · have : b.length + (k - 1) = k + (b.length - k + (k - 1)) := by omega
        rw [this, Nat.add_div_left _ hk]
theorem crc_le (b : List UInt8) : crc b ≤ 4294967295 := by unfold crc crcMore; omega
theorem pad_cons_take (c : UInt8) (p : List UInt8) : (pad (c :: p)).take 1 = [c] := rfl
theorem pad_take (b : List UInt8) : (pad b).take b.length = b := by unfold pad; rw [List.take_left]
theorem parts_full {s : Nat → List UInt8} : ∀ (f k : Nat) (b acc : List UInt8) (size : Nat), (chunks 511 b).length = f → size = acc.length + b.length → (∀ i p, (chunks 511 b)[i]? = some p → s (k + i) = pad (68 :: p)) → parts s f k size acc = some (acc ++ b)
  | 0, k, b, acc, size, hf, hs, _ => by
    have hb : b = [] := by
      cases b with
      | nil => rfl
      | cons x b => rw [chunks_cons (by omega) (by simp)] at hf; cases hf
    subst hb
    rw [parts, List.append_nil]
  | f + 1, k, b, acc, size, hf, hs, h => by
    have hb : b ≠ [] := by rintro rfl; rw [chunks_nil] at hf; cases hf
    have hc := chunks_cons (k := 511) (by omega) hb
    have h0 := h 0 (b.take 511) (by rw [hc]; rfl)
    rw [Nat.add_zero] at h0
    have hm : 1 + min 511 (size - acc.length) = (68 :: b.take 511 : List UInt8).length := by rw [List.length_cons, List.length_take]; omega
    have ht : (s k).take (1 + min 511 (size - acc.length)) = 68 :: b.take 511 := by rw [hm, h0, pad_take]
    rw [parts, ht, if_pos ⟨by rw [h0]; rfl, h0⟩]
    have hl : (acc ++ b.take 511).length = acc.length + min 511 b.length := by rw [List.length_append, List.length_take]
    have := parts_full (s := s) f (k + 1) (b.drop 511) (acc ++ b.take 511) size (by rw [hc, List.length_cons] at hf; omega) (by rw [hl, List.length_drop]; omega) (fun i p hi => by
      have := h (i + 1) p (by rw [hc, List.getElem?_cons_succ]; exact hi)
      rwa [show k + (i + 1) = k + 1 + i by omega] at this)
    show parts s f (k + 1) size (acc ++ b.take 511) = _
    rw [this, List.append_assoc, List.take_append_drop]
theorem need_chunks (b : List UInt8) : need b.length = 1 + (chunks 511 b).length := by
  unfold need
  rw [chunks_len (by omega) b.length b (Nat.le_refl _)]
theorem recordAt_full {s : Nat → List UInt8} {count at' : Nat} {age n : Int} {b : List UInt8} (a1 : 1 ≤ age) (a2 : age ≤ mostAge) (n1 : 0 ≤ n) (n2 : n ≤ mostAge) (hb : b.length ≤ 16777216) (hc : at' + need b.length ≤ count) (hf : (logFirst age n b).length ≤ 512)
    (h0 : s at' = pad (logFirst age n b)) (h : ∀ i p, (chunks 511 b)[i]? = some p → s (at' + 1 + i) = pad (68 :: p)) : recordAt s count age n at' = some b := by
  have hd : (s at').drop 1 = num age ++ (num n ++ (num b.length ++ (num (crc b : Nat) ++ (tail4 (crc (num age ++ num n ++ num b.length ++ num (crc b : Nat))) ++ zeros (512 - (logFirst age n b).length))))) := by
    rw [h0]
    unfold pad
    simp only [logFirst, close, List.append_assoc, List.cons_append, List.drop_succ_cons, List.drop_zero]
  have ht : (s at').take 1 = [72] := by rw [h0]; rfl
  have hp := parts_full (s := s) (chunks 511 b).length (at' + 1) b [] b.length rfl (by simp) h
  have hcr := crc_le b
  unfold recordAt
  rw [if_pos ht, hd]
  generalize tail4 (crc (num age ++ num n ++ num b.length ++ num (crc b : Nat))) ++ zeros (512 - (logFirst age n b).length) = q
  simp only [rn_full (lo := 1) (hi := mostAge) _ a1 a2 (by decide) (by decide), rn_full (lo := 0) (hi := mostAge) _ n1 n2 (by decide) (by decide), rn_full (lo := 0) (hi := 16777216) _ (show (0 : Int) ≤ (b.length : Int) by omega) (show (b.length : Int) ≤ 16777216 by omega) (by decide) (by decide), rn_full (lo := 0) (hi := 4294967296) _ (show (0 : Int) ≤ ((crc b : Nat) : Int) by omega) (show ((crc b : Nat) : Int) ≤ 4294967296 by omega) (by decide) (by decide), Int.toNat_natCast]
  rw [if_neg (by simp; omega), need_chunks, Nat.add_sub_cancel_left, hp]
  simp only [List.nil_append]
  rw [if_pos ⟨h0, hf⟩]
def NoRec (s : List UInt8) (age : Int) : Prop := s.take 1 = [72] → (rn 1 mostAge (s.drop 1) 0).1 ≠ age
theorem recordAt_none {s : Nat → List UInt8} {count at' : Nat} {age n : Int} (h : NoRec (s at') age) : recordAt s count age n at' = none := by
  unfold recordAt
  split
  · rename_i ht
    have := h ht
    simp only
    rw [if_pos (.inr (.inl this))]
  · rfl
theorem noRec_zeros (age : Int) : NoRec (zeros 512) age := fun h => by
  have : (zeros 512).take 1 = [0] := rfl
  rw [this] at h
  cases h
theorem noRec_part (p : List UInt8) (age : Int) : NoRec (pad (68 :: p)) age := fun h => by
  rw [pad_cons_take] at h
  cases h
theorem noRec_old {age age' n : Int} {b : List UInt8} (a1 : 1 ≤ age) (a2 : age ≤ mostAge) (h : age ≠ age') : NoRec (pad (logFirst age n b)) age' := fun _ => by
  have hd : (pad (logFirst age n b)).drop 1 = num age ++ (num n ++ (num b.length ++ (num (crc b : Nat) ++ (tail4 (crc (num age ++ num n ++ num b.length ++ num (crc b : Nat))) ++ zeros (512 - (logFirst age n b).length))))) := by
    unfold pad
    simp only [logFirst, close, List.append_assoc, List.cons_append, List.drop_succ_cons, List.drop_zero]
  rw [hd, rn_full (lo := 1) (hi := mostAge) _ a1 a2 (by decide) (by decide)]
  exact h
def RecsAt (s : Nat → List UInt8) (age : Int) : List (List UInt8) → Int → Nat → Prop
  | [], _, _ => True
  | b :: l, n, at' => s at' = pad (logFirst age n b) ∧ (logFirst age n b).length ≤ 512 ∧ b.length ≤ 16777216 ∧ (∀ i p, (chunks 511 b)[i]? = some p → s (at' + 1 + i) = pad (68 :: p)) ∧ RecsAt s age l (n + 1) (at' + need b.length)
def sectorsOf : List (List UInt8) → Nat
  | [] => 0
  | b :: l => need b.length + sectorsOf l
theorem records_full {s : Nat → List UInt8} {count : Nat} {age : Int} (a1 : 1 ≤ age) (a2 : age ≤ mostAge) : ∀ (l : List (List UInt8)) (f : Nat) (n : Int) (at' : Nat), RecsAt s age l n at' → 0 ≤ n → n + l.length ≤ mostAge → at' + sectorsOf l ≤ count → l.length < f → (at' + sectorsOf l < count → NoRec (s (at' + sectorsOf l)) age) →
    records s count age f n at' = (l, n + l.length, at' + sectorsOf l)
  | [], f + 1, n, at', _, _, _, _, _, hn => by
    rw [records]
    split
    · rename_i hlt
      have hh := recordAt_none (s := s) (count := count) (n := n) (at' := at') (age := age) (by
        have := hn (by simpa [sectorsOf] using hlt)
        simpa [sectorsOf] using this)
      rw [hh]
      simp [sectorsOf]
    · simp [sectorsOf]
  | b :: l, f + 1, n, at', h, h0, hm, hc, hf, hn => by
    obtain ⟨r1, r2, r3, r4, r5⟩ := h
    rw [List.length_cons] at hm hf
    have hs : sectorsOf (b :: l) = need b.length + sectorsOf l := rfl
    have hnd : 1 ≤ need b.length := by unfold need; omega
    have hrec := recordAt_full (s := s) (count := count) (at' := at') (n := n) (b := b) a1 a2 h0 (by omega) r3 (by omega) r2 r1 r4
    have hlt : at' < count := by omega
    rw [records, if_pos hlt, hrec]
    simp only
    have ih := records_full (count := count) a1 a2 l f (n + 1) (at' + need b.length) r5 (by omega) (by omega) (by omega) (by omega) (fun hlt => by
      have := hn (by omega)
      rwa [hs, ← Nat.add_assoc] at this)
    rw [ih, hs]
    simp only [List.length_cons]
    refine Prod.ext rfl (Prod.ext ?_ ?_)
    · simp only; omega
    · simp only; omega
  | _, 0, _, _, _, _, _, _, hf, _ => by omega
end St
end Go.Proofs.YtcpgbekcbaelpaaGreatDoor
/- Layer 4 in plain words: deeds on a disk whose power lasts. No program in sight. -/
namespace Go.Proofs.YtcpgbekcbaelpaaGreatDoor
open Wr
set_option linter.unusedVariables false
set_option linter.unusedSimpArgs false
namespace St
structure Live (d : Dk) (n : Nat) (f : Nat → List UInt8) : Prop where
  off : d.off = false
  left : d.left = -1
  len : d.last.length = n
  ws : ∀ x ∈ d.waits, x.1 < n
  now : ∀ i, i < n → d.now i = f i
def upd (f : Nat → List UInt8) (i : Nat) (b : List UInt8) : Nat → List UInt8 := fun j => if j = i then b else f j
theorem upd_same (f : Nat → List UInt8) (i : Nat) (b : List UInt8) : upd f i b i = b := by simp [upd]
theorem upd_other {f : Nat → List UInt8} {i j : Nat} {b : List UInt8} (h : j ≠ i) : upd f i b j = f j := by simp [upd, h]
def RunsTo {α : Type} (m : DM α) (n : Nat) (f : Nat → List UInt8) (a : α) (f' : Nat → List UInt8) : Prop := ∀ d, Live d n f → ∃ d', m d = (.ok a, d') ∧ Live d' n f'
theorem RunsTo.ret {α : Type} (n : Nat) (f : Nat → List UInt8) (a : α) : RunsTo (DM.ret a) n f a f := fun d h => ⟨d, rfl, h⟩
theorem RunsTo.andThen {α β : Type} {m : DM α} {g : α → DM β} {n : Nat} {f f' f'' : Nat → List UInt8} {a : α} {b : β} (h : RunsTo m n f a f') (k : RunsTo (g a) n f' b f'') : RunsTo (m.andThen g) n f b f'' := fun d hd => by
  obtain ⟨d', e, h'⟩ := h d hd
  obtain ⟨d'', e2, h''⟩ := k d' h'
  refine ⟨d'', ?_, h''⟩
  unfold DM.andThen
  rw [e]
  exact e2
theorem spend_live {d : Dk} {n : Nat} {f : Nat → List UInt8} (h : Live d n f) : d.spend = ({ d with left := -1, steps := d.steps + 1 }, 0) := by
  unfold Dk.spend
  rw [h.left, if_neg (by decide), if_neg (by decide)]
theorem writeD_live {n i : Nat} {f : Nat → List UInt8} {b : List UInt8} (hi : i < n) (hb : b.length = 512) : RunsTo (writeD (i : Int) b) n f () (upd f i b) := fun d h => by
  have hs := spend_live h
  have hw : d.write (i : Int) b = ({ d with left := -1, steps := d.steps + 1, waits := d.waits ++ [(i, b)] }, 0) := by
    unfold Dk.write
    rw [if_neg (by rw [h.off]; decide), if_neg (by rw [h.len, hb]; simp; omega), hs]
    simp
  refine ⟨{ d with left := -1, steps := d.steps + 1, waits := d.waits ++ [(i, b)] }, ?_, h.off, rfl, h.len, fun x hx => ?_, fun j hj => ?_⟩
  · unfold writeD
    rw [hw]
    rfl
  · rcases List.mem_append.1 hx with hx | hx
    · exact h.ws x hx
    · rw [List.mem_singleton] at hx; subst hx; exact hi
  · have hn := h.now j hj
    unfold Dk.now at hn ⊢
    simp only [List.reverse_append, List.reverse_cons, List.reverse_nil, List.nil_append, List.singleton_append, List.find?_cons]
    by_cases e : j = i
    · subst e
      simp [upd]
    · have e2 : (i == j) = false := by simpa using fun x => e x.symm
      rw [e2, upd_other e]
      exact hn
theorem settle_now : ∀ (l : List (Nat × List UInt8)) (last : List (List UInt8)) (k i : Nat), (∀ x ∈ l, x.1 < last.length) → (settle last l (fun _ => true) k).getD i [] = ((l.reverse.find? fun x => x.1 == i).map (·.2)).getD (last.getD i []) ∧ (settle last l (fun _ => true) k).length = last.length
  | [], last, k, i, _ => by simp [settle]
  | x :: l, last, k, i, h => by
    have hx := h x (List.mem_cons_self ..)
    have ih := settle_now l (last.set x.1 x.2) (k + 1) i (fun y hy => by rw [List.length_set]; exact h y (List.mem_cons_of_mem _ hy))
    rw [settle, if_pos rfl]
    refine ⟨?_, by rw [ih.2, List.length_set]⟩
    rw [ih.1, List.reverse_cons, List.find?_append]
    cases hf : l.reverse.find? (fun x => x.1 == i) with
    | some y => simp
    | none =>
      simp only [Option.none_or, Option.map_none, Option.getD_none, List.find?_cons, List.find?_nil]
      by_cases e : x.1 = i
      · subst e
        simp [List.getD_eq_getElem?_getD, hx]
      · have e2 : (x.1 == i) = false := by simpa using e
        rw [e2]
        simp [List.getD_eq_getElem?_getD, List.getElem?_set_ne e]
theorem barrierD_live {n : Nat} {f : Nat → List UInt8} : RunsTo barrierD n f () f := fun d h => by
  have hs := spend_live h
  have hw : d.barrier = ({ d with left := -1, steps := d.steps + 1, last := settle d.last d.waits (fun _ => true) 0, waits := [] }, 0) := by
    unfold Dk.barrier
    rw [if_neg (by rw [h.off]; decide), hs]
    simp
  have hst := fun i => settle_now d.waits d.last 0 i (fun x hx => by rw [h.len]; exact h.ws x hx)
  refine ⟨{ d with left := -1, steps := d.steps + 1, last := settle d.last d.waits (fun _ => true) 0, waits := [] }, by unfold barrierD; rw [hw]; rfl, h.off, rfl, ?_, (fun x hx => by cases hx), fun i hi => ?_⟩
  · show (settle d.last d.waits (fun _ => true) 0).length = n
    rw [(hst 0).2]; exact h.len
  have hn := h.now i hi
  unfold Dk.now at hn ⊢
  simp only [List.reverse_nil, List.find?_nil, Option.map_none, Option.getD_none]
  rw [(hst i).1]
  exact hn
theorem readD_live {n i : Nat} {f : Nat → List UInt8} (hi : i < n) : RunsTo (readD (i : Int)) n f (f i) f := fun d h => by
  have hw : d.read (i : Int) = (f i, 0) := by
    unfold Dk.read
    rw [if_neg (by rw [h.off]; decide), if_neg (by rw [h.len]; omega), Int.toNat_natCast, h.now i hi]
  exact ⟨d, by unfold readD; rw [hw]; rfl, h⟩
def updL (f : Nat → List UInt8) : Nat → List (List UInt8) → Nat → List UInt8
  | _, [] => f
  | i, b :: l => updL (upd f i b) (i + 1) l
theorem updL_out : ∀ (l : List (List UInt8)) (f : Nat → List UInt8) (i j : Nat), (j < i ∨ i + l.length ≤ j) → updL f i l j = f j
  | [], f, i, j, _ => rfl
  | b :: l, f, i, j, h => by
    rw [List.length_cons] at h
    rw [updL, updL_out l _ _ _ (by omega), upd_other (by omega)]
theorem updL_in : ∀ (l : List (List UInt8)) (f : Nat → List UInt8) (i k : Nat) (b : List UInt8), l[k]? = some b → updL f i l (i + k) = b
  | c :: l, f, i, 0, b, h => by
    rw [List.getElem?_cons_zero] at h
    cases h
    show updL (upd f i c) (i + 1) l (i + 0) = c
    rw [updL_out l _ _ _ (Or.inl (by omega))]
    exact upd_same ..
  | c :: l, f, i, k + 1, b, h => by
    rw [List.getElem?_cons_succ] at h
    rw [updL, show i + (k + 1) = i + 1 + k by omega]
    exact updL_in l _ _ _ _ h
  | [], _, _, _, _, h => by cases h
theorem writesD_live {n : Nat} : ∀ (l : List (List UInt8)) (f : Nat → List UInt8) (i : Nat), i + l.length ≤ n → (∀ b ∈ l, b.length = 512) → RunsTo (writesD (i : Int) l) n f () (updL f i l)
  | [], f, i, _, _ => RunsTo.ret n f ()
  | b :: l, f, i, h, hb => by
    rw [List.length_cons] at h
    rw [writesD, updL]
    refine (writeD_live (i := i) (show i < n by omega) (hb b (List.mem_cons_self ..))).andThen ?_
    have := writesD_live (n := n) l (upd f i b) (i + 1) (by omega) (fun c hc => hb c (List.mem_cons_of_mem _ hc))
    rw [show ((i + 1 : Nat) : Int) = (i : Int) + 1 by omega] at this
    exact this
theorem readsD_live {n : Nat} {f : Nat → List UInt8} : ∀ (k i : Nat), i + k ≤ n → RunsTo (readsD (i : Int) k) n f ((List.range k).flatMap fun j => f (i + j)) f
  | 0, i, _ => RunsTo.ret n f []
  | k + 1, i, h => by
    rw [readsD]
    refine (readD_live (show i < n by omega)).andThen ?_
    have := readsD_live (n := n) (f := f) k (i + 1) (by omega)
    rw [show ((i + 1 : Nat) : Int) = (i : Int) + 1 by omega] at this
    refine this.andThen ?_
    have e : (List.range (k + 1)).flatMap (fun j => f (i + j)) = f i ++ (List.range k).flatMap (fun j => f (i + 1 + j)) := by
      rw [List.range_succ_eq_map, List.flatMap_cons, List.flatMap_map, Nat.add_zero]
      refine congrArg (fun g => f i ++ (List.range k).flatMap g) (funext fun j => congrArg f ?_)
      show i + (j + 1) = i + 1 + j
      omega
    rw [e]
    exact RunsTo.ret n f _
end St
end Go.Proofs.YtcpgbekcbaelpaaGreatDoor
/- Layer 7 in plain words: what a disk holds of a store; opened, it tells it. No program in sight. -/
namespace Go.Proofs.YtcpgbekcbaelpaaGreatDoor
open Wr
set_option linter.unusedVariables false
set_option linter.unusedSimpArgs false
namespace St
theorem chunks_flat {k : Nat} (hk : 0 < k) : ∀ (n : Nat) (b : List UInt8), b.length ≤ n → (chunks k b).flatten = b
  | 0, b, h => by
    have : b = [] := List.length_eq_zero_iff.1 (by omega)
    subst this
    rw [chunks_nil]
    rfl
  | n + 1, b, h => by
    by_cases hb : b = []
    · subst hb; rw [chunks_nil]; rfl
    · have hp : 0 < b.length := List.length_pos_iff.2 hb
      rw [chunks_cons hk hb, List.flatten_cons, chunks_flat hk n _ (by rw [List.length_drop]; omega), List.take_append_drop]
theorem range_flat {α : Type} : ∀ (l : List (List α)) (g : Nat → List α), (∀ i p, l[i]? = some p → g i = p) → (List.range l.length).flatMap g = l.flatten
  | [], g, _ => rfl
  | b :: l, g, h => by
    rw [List.length_cons, List.range_succ_eq_map, List.flatMap_cons, List.flatMap_map, List.flatten_cons, h 0 b rfl]
    congr 1
    exact range_flat l _ (fun i p hi => h (i + 1) p (by rw [List.getElem?_cons_succ]; exact hi))
theorem full_take (b : List UInt8) : (full b).take b.length = b := by unfold full; rw [List.take_left]
theorem full_chunks (b : List UInt8) : (chunks 512 (full b)).length = (b.length + 511) / 512 := by
  rw [chunks_len (by omega) _ _ (Nat.le_refl _)]
  unfold full
  rw [List.length_append, zeros_len]
  omega
structure Inv (dec : List UInt8 → Bool) (s : Sto) (n : Nat) (f : Nat → List UInt8) (o0 : Objs) (n0 : Int) (rs : List (List UInt8)) : Prop where
  c3 : 3 ≤ s.count
  e1 : 1 ≤ s.each
  geo : 2 + s.count + 2 * s.each ≤ n
  nb : n ≤ 4611686018427387904
  ob0 : ObjsOk dec o0 n0
  fit : (image o0 n0).length ≤ s.each * 512
  hsz : s.hd.size = (image o0 n0).length
  hsm : s.hd.sum = (crc (image o0 n0) : Nat)
  img : ∀ i p, (chunks 512 (full (image o0 n0)))[i]? = some p → f (2 + s.count + s.hd.half.toNat * s.each + i) = p
  recs : RecsAt (fun i => f (2 + i)) s.hd.age rs 0 2
  log : s.log = ⟨2, s.count, s.hd.age, rs.length, 2 + sectorsOf rs⟩
  room : 2 + sectorsOf rs ≤ s.count
  play : replays dec rs o0 n0 = some (s.objs, s.next)
  hok : s.hd.Ok
  hd1 : f (1 - s.hd.turn % 2).toNat = full s.hd.bytes
  hd2 : (readHd (f (s.hd.turn % 2).toNat)).turn < s.hd.turn
  lg1 : f (2 + (1 - s.hd.age % 2).toNat) = pad (logHead s.hd.age)
  lg2 : ageOf (f (2 + (s.hd.age % 2).toNat)) < s.hd.age
  free : ∀ j, 2 + sectorsOf rs ≤ j → j < s.count → NoRec (f (2 + j)) s.hd.age
  fut : ∀ j a, 2 ≤ j → j < s.count → s.hd.age < a → NoRec (f (2 + j)) a
  obs : ObjsOk dec s.objs s.next
theorem laterHd_of {h : Hd2} {b : List UInt8} (k : Hd2) (h1 : readHd b = k) (h2 : h.turn < k.turn) : laterHd h b = k := by unfold laterHd; rw [h1, if_pos h2]
theorem laterHd_no {h : Hd2} {b : List UInt8} (h2 : (readHd b).turn ≤ h.turn) : laterHd h b = h := by unfold laterHd; rw [if_neg (by omega)]
theorem load_live {dec : List UInt8 → Bool} {s : Sto} {n : Nat} {f : Nat → List UInt8} {o0 : Objs} {n0 : Int} {rs : List (List UInt8)} (h : Inv dec s n f o0 n0 rs) : RunsTo (load dec s.count s.each) n f (s.hd, o0, n0) f := by
  have hg := h.geo
  have hc := h.c3
  have he := h.e1
  have t1 := h.hok.t1
  have hrd := readHd_full h.hok
  unfold load
  refine (readD_live (show 0 < n by omega)).andThen ((readD_live (show 1 < n by omega)).andThen ?_)
  have hh : laterHd (laterHd noHd (f 0)) (f 1) = s.hd := by
    by_cases hp : s.hd.turn % 2 = 1
    · have h1 := h.hd1
      have h2 := h.hd2
      rw [hp] at h1 h2
      have e1 : f 0 = full s.hd.bytes := h1
      have e2 : (readHd (f 1)).turn < s.hd.turn := h2
      have ea : laterHd noHd (f 0) = s.hd := laterHd_of s.hd (by rw [e1]; exact hrd) (by show (0 : Int) < _; omega)
      rw [ea]
      exact laterHd_no (by omega)
    · have hp0 : s.hd.turn % 2 = 0 := by omega
      have h1 := h.hd1
      have h2 := h.hd2
      rw [hp0] at h1 h2
      have e1 : f 1 = full s.hd.bytes := h1
      have e2 : (readHd (f 0)).turn < s.hd.turn := h2
      refine laterHd_of s.hd (by rw [e1]; exact hrd) ?_
      unfold laterHd
      split
      · exact e2
      · show (0 : Int) < _; omega
  simp only [hh]
  have hsz := h.hsz
  have hft := h.fit
  rw [if_neg (by rw [hsz]; omega)]
  have hk : (s.hd.size.toNat + 511) / 512 = (chunks 512 (full (image o0 n0))).length := by rw [full_chunks, hsz, Int.toNat_natCast]
  have hhalf : 0 ≤ s.hd.half ∧ s.hd.half ≤ 1 := ⟨h.hok.f1, h.hok.f2⟩
  have hpos : ((2 + s.count : Nat) : Int) + s.hd.half * s.each = ((2 + s.count + s.hd.half.toNat * s.each : Nat) : Int) := by
    obtain ⟨a, ha⟩ : ∃ a : Nat, s.hd.half = (a : Int) := ⟨s.hd.half.toNat, by omega⟩
    rw [ha, Int.toNat_natCast]
    have e : ((a * s.each : Nat) : Int) = (a : Int) * (s.each : Int) := by simp
    omega
  have hin : 2 + s.count + s.hd.half.toNat * s.each + (chunks 512 (full (image o0 n0))).length ≤ n := by
    rw [full_chunks]
    have h1 : ((image o0 n0).length + 511) / 512 ≤ s.each := by omega
    have h2 : s.hd.half.toNat * s.each ≤ 1 * s.each := Nat.mul_le_mul_right _ (by omega)
    omega
  rw [hk, hpos]
  refine (readsD_live _ _ hin).andThen ?_
  rw [range_flat _ _ h.img, chunks_flat (by omega) _ _ (Nat.le_refl _), hsz, Int.toNat_natCast, full_take, readImage_full h.ob0]
  simp only
  rw [if_pos h.hsm.symm]
  exact RunsTo.ret _ _ _
end St
end Go.Proofs.YtcpgbekcbaelpaaGreatDoor
/- Layer 7 in plain words: a store that is opened, as its disk tells it; a new one. No program in sight. -/
namespace Go.Proofs.YtcpgbekcbaelpaaGreatDoor
open Wr
set_option linter.unusedVariables false
set_option linter.unusedSimpArgs false
namespace St
theorem recsAt_congr {s s' : Nat → List UInt8} {age : Int} : ∀ (l : List (List UInt8)) (n : Int) (at' : Nat), (∀ j, at' ≤ j → j < at' + sectorsOf l → s' j = s j) → RecsAt s age l n at' → RecsAt s' age l n at'
  | [], _, _, _, _ => trivial
  | b :: l, n, at', h, r => by
    obtain ⟨r1, r2, r3, r4, r5⟩ := r
    have hs : sectorsOf (b :: l) = need b.length + sectorsOf l := rfl
    have hn := need_chunks b
    refine ⟨by rw [h at' (by omega) (by omega)]; exact r1, r2, r3, fun i p hp => ?_, recsAt_congr l _ _ (fun j h1 h2 => h j (by omega) (by omega)) r5⟩
    have hi := (List.getElem?_eq_some_iff.1 hp).1
    rw [h _ (by omega) (by omega)]
    exact r4 i p hp
theorem recs_count : ∀ l : List (List UInt8), l.length ≤ sectorsOf l
  | [] => Nat.le_refl _
  | b :: l => by
    have h := recs_count l
    have hs : sectorsOf (b :: l) = need b.length + sectorsOf l := rfl
    have hn := need_chunks b
    rw [List.length_cons]
    omega
theorem logHead_len {age : Int} (a1 : 1 ≤ age) (a2 : age ≤ mostAge) : (logHead age).length ≤ 512 := by
  have hm : mostAge = 4611686018427387904 := rfl
  have := num_len (n := age) (by omega) (by omega)
  unfold logHead
  rw [close_len, List.length_append]
  show 2 + (num age).length + 4 ≤ 512
  omega
theorem ageOf_full {age : Int} (a1 : 1 ≤ age) (a2 : age ≤ mostAge) : ageOf (pad (logHead age)) = age := by
  have hl := logHead_len a1 a2
  have hd : (pad (logHead age)).drop 2 = num age ++ (tail4 (crc ([76, 71] ++ num age)) ++ zeros (512 - (logHead age).length)) := by
    have e : logHead age = [76, 71] ++ (num age ++ tail4 (crc ([76, 71] ++ num age))) := by unfold logHead close; rw [List.append_assoc]
    unfold pad
    rw [← List.append_assoc (num age)]
    generalize zeros (512 - (logHead age).length) = z
    rw [e]
    rfl
  have ht : (pad (logHead age)).take 2 = [76, 71] := rfl
  have hr := rn_full (lo := 1) (hi := mostAge) (tail4 (crc ([76, 71] ++ num age)) ++ zeros (512 - (logHead age).length)) a1 a2 (by decide) (by decide)
  rw [← hd] at hr
  unfold ageOf
  rw [if_pos ht, hr]
  exact if_pos ⟨by show age ≠ 0; omega, rfl, hl⟩
theorem logOpen_live {dec : List UInt8 → Bool} {s : Sto} {n : Nat} {f : Nat → List UInt8} {o0 : Objs} {n0 : Int} {rs : List (List UInt8)} (h : Inv dec s n f o0 n0 rs) : RunsTo (logOpen s.count) n f (s.log, rs) f := fun d hd => by
  have hg := h.geo
  have hc := h.c3
  have hb := h.nb
  have hro := h.room
  have hm : mostAge = 4611686018427387904 := rfl
  have a1 := h.hok.a1
  have a2 := h.hok.a2
  have n2 : d.now 2 = f 2 := hd.now 2 (by omega)
  have n3 : d.now 3 = f 3 := hd.now 3 (by omega)
  have hf := ageOf_full (age := s.hd.age) a1 (by omega)
  have ha : max (max 0 (ageOf (d.now 2))) (ageOf (d.now 3)) = s.hd.age := by
    rw [n2, n3]
    have h1 := h.lg1
    have h2 := h.lg2
    by_cases hp : s.hd.age % 2 = 1
    · rw [hp] at h1 h2
      have e1 : f 2 = pad (logHead s.hd.age) := h1
      have e2 : ageOf (f 3) < s.hd.age := h2
      rw [e1, hf]
      omega
    · have hp0 : s.hd.age % 2 = 0 := by omega
      rw [hp0] at h1 h2
      have e1 : f 3 = pad (logHead s.hd.age) := h1
      have e2 : ageOf (f 2) < s.hd.age := h2
      rw [e1, hf]
      omega
  have hl := recs_count rs
  have hr := records_full (s := fun i => d.now (2 + i)) (count := s.count) (age := s.hd.age) a1 (by omega) rs s.count 0 2 (recsAt_congr rs 0 2 (fun j h1 h2 => hd.now _ (by omega)) h.recs) (by omega) (by omega) hro (by omega) (fun hlt => by
    show NoRec (d.now (2 + (2 + sectorsOf rs))) _
    rw [hd.now _ (by omega)]
    exact h.free _ (by omega) hlt)
  refine ⟨d, ?_, hd⟩
  unfold logOpen
  rw [if_neg (by rw [hd.off]; decide)]
  simp only [ha]
  rw [if_neg (by omega), hr, h.log]
  simp
theorem open_live {dec : List UInt8 → Bool} {s : Sto} {n : Nat} {f : Nat → List UInt8} {o0 : Objs} {n0 : Int} {rs : List (List UInt8)} (h : Inv dec s n f o0 n0 rs) : RunsTo (openT dec s.count s.each) n f s f := by
  have hl : s.log.age = s.hd.age := by rw [h.log]
  unfold openT
  refine (load_live h).andThen ((logOpen_live h).andThen ?_)
  simp only [hl]
  rw [show (s.hd.age - s.hd.age).toNat = 0 by omega]
  refine (RunsTo.ret n f s.log).andThen ?_
  rw [if_neg (by omega), h.play]
  exact RunsTo.ret n f s
end St
end Go.Proofs.YtcpgbekcbaelpaaGreatDoor
/- Layer 7 in plain words: what a log and a store write. No program in sight. -/
namespace Go.Proofs.YtcpgbekcbaelpaaGreatDoor
open Wr
set_option linter.unusedVariables false
set_option linter.unusedSimpArgs false
namespace St
theorem chunks_le {k : Nat} (hk : 0 < k) : ∀ (n : Nat) (b : List UInt8), b.length ≤ n → ∀ p ∈ chunks k b, p.length ≤ k
  | 0, b, h, p, hp => by
    have : b = [] := List.length_eq_zero_iff.1 (by omega)
    subst this
    rw [chunks_nil] at hp
    cases hp
  | n + 1, b, h, p, hp => by
    by_cases hb : b = []
    · subst hb
      rw [chunks_nil] at hp
      cases hp
    · have hp0 : 0 < b.length := List.length_pos_iff.2 hb
      rw [chunks_cons hk hb] at hp
      rcases List.mem_cons.1 hp with e | e
      · rw [e, List.length_take]; omega
      · exact chunks_le hk n _ (by rw [List.length_drop]; omega) p e
theorem chunks_eq {k : Nat} (hk : 0 < k) : ∀ (n : Nat) (b : List UInt8), b.length ≤ n → b.length % k = 0 → ∀ p ∈ chunks k b, p.length = k
  | 0, b, h, h0, p, hp => by
    have : b = [] := List.length_eq_zero_iff.1 (by omega)
    subst this
    rw [chunks_nil] at hp
    cases hp
  | n + 1, b, h, h0, p, hp => by
    by_cases hb : b = []
    · subst hb
      rw [chunks_nil] at hp
      cases hp
    · have hp0 : 0 < b.length := List.length_pos_iff.2 hb
      have hge : k ≤ b.length := by
        by_cases hlt : b.length < k
        · rw [Nat.mod_eq_of_lt hlt] at h0; omega
        · omega
      rw [chunks_cons hk hb] at hp
      rcases List.mem_cons.1 hp with e | e
      · rw [e, List.length_take]; omega
      · exact chunks_eq hk n _ (by rw [List.length_drop]; omega) (by rw [List.length_drop, ← Nat.mod_eq_sub_mod hge]; exact h0) p e
theorem logFirst_len {age n : Int} {b : List UInt8} (a1 : 1 ≤ age) (a2 : age ≤ mostAge) (n1 : 0 ≤ n) (n2 : n ≤ mostAge) (hb : b.length ≤ 16777216) : (logFirst age n b).length ≤ 512 := by
  have hm : mostAge = 4611686018427387904 := rfl
  have hc := crc_le b
  have h1 := num_len (n := age) (by omega) (by omega)
  have h2 := num_len (n := n) (by omega) (by omega)
  have h3 := num_len (n := (b.length : Int)) (by omega) (by omega)
  have h4 := num_len (n := ((crc b : Nat) : Int)) (by omega) (by omega)
  unfold logFirst
  rw [List.length_cons, close_len, List.length_append, List.length_append, List.length_append]
  omega
theorem append_live {n : Nat} {f : Nat → List UInt8} {l : Lg} {b : List UInt8} (a1 : 1 ≤ l.age) (a2 : l.age ≤ mostAge) (n1 : 0 ≤ l.next) (n2 : l.next ≤ mostAge) (hb : b.length ≤ 16777216) (hc : l.at' + need b.length ≤ l.count) (hg : l.first + l.count ≤ n) :
    RunsTo (l.append b) n f { l with at' := l.at' + need b.length, next := l.next + 1 } (upd (updL f (l.first + l.at' + 1) ((chunks 511 b).map fun p => pad (68 :: p))) (l.first + l.at') (pad (logFirst l.age l.next b))) := by
  have hn := need_chunks b
  unfold Lg.append
  rw [if_neg (by omega), if_neg (by omega)]
  refine (writesD_live _ f (l.first + l.at' + 1) (by rw [List.length_map]; omega) (fun c hc => ?_)).andThen (RunsTo.andThen (barrierD_live) (RunsTo.andThen (writeD_live (by omega) (pad_len (logFirst_len a1 a2 n1 n2 hb))) (RunsTo.andThen barrierD_live (RunsTo.ret n _ _))))
  obtain ⟨p, hp, e⟩ := List.mem_map.1 hc
  subst e
  exact pad_len (by have := chunks_le (k := 511) (by omega) _ _ (Nat.le_refl _) p hp; rw [List.length_cons]; omega)
theorem truncate_live {n : Nat} {f : Nat → List UInt8} {l : Lg} (a1 : 1 ≤ l.age) (a2 : l.age + 1 ≤ mostAge) (hg : l.first + 2 ≤ n) :
    RunsTo l.truncate n f { l with age := l.age + 1, next := 0, at' := 2 } (upd f (l.first + (1 - (l.age + 1) % 2).toNat) (pad (logHead (l.age + 1)))) := by
  unfold Lg.truncate
  rw [show ((l.first : Nat) : Int) + (1 - (l.age + 1) % 2) = ((l.first + (1 - (l.age + 1) % 2).toNat : Nat) : Int) by omega]
  exact RunsTo.andThen (writeD_live (by omega) (pad_len (logHead_len (by omega) a2))) (RunsTo.andThen barrierD_live (RunsTo.ret n _ _))
theorem hd_len {h : Hd2} (o : h.Ok) : h.bytes.length ≤ 512 ∧ 0 < h.bytes.length := by
  have h1 := num_len (n := h.turn) (by have := o.t1; omega) (by have := o.t2; omega)
  have h2 := num_len (n := h.half) (by have := o.f1; omega) (by have := o.f2; omega)
  have h3 := num_len (n := h.size) (by have := o.z1; omega) (by have := o.z2; omega)
  have h4 := num_len (n := h.sum) (by have := o.s1; omega) (by have := o.s2; omega)
  have h5 := num_len (n := h.age) (by have := o.a1; omega) (by have := o.a2; omega)
  unfold Hd2.bytes
  rw [close_len, List.length_append, List.length_append, List.length_append, List.length_append, List.length_append]
  show 2 + _ + _ + _ + _ + _ + 4 ≤ 512 ∧ 0 < 2 + _ + _ + _ + _ + _ + 4
  omega
theorem laid_live {n count each : Nat} {f : Nat → List UInt8} {o : Objs} {next : Int} {h : Hd2} (hok : Hd2.Ok { h with size := (image o next).length, sum := (crc (image o next) : Nat) }) (hfit : (image o next).length ≤ each * 512) (hg : 2 + count + 2 * each ≤ n) :
    RunsTo (laid count each o next h) n f { h with size := (image o next).length, sum := (crc (image o next) : Nat) }
      (upd (updL f (2 + count + h.half.toNat * each) (chunks 512 (full (image o next)))) (1 - h.turn % 2).toNat (full (Hd2.bytes { h with size := (image o next).length, sum := (crc (image o next) : Nat) }))) := by
  have f1 : 0 ≤ h.half := hok.f1
  have f2 : h.half ≤ 1 := hok.f2
  have hpos : ((2 + count : Nat) : Int) + h.half * each = ((2 + count + h.half.toNat * each : Nat) : Int) := by
    obtain ⟨a, ha⟩ : ∃ a : Nat, h.half = (a : Int) := ⟨h.half.toNat, by omega⟩
    rw [ha, Int.toNat_natCast]
    have e : ((a * each : Nat) : Int) = (a : Int) * (each : Int) := by simp
    omega
  have hin : 2 + count + h.half.toNat * each + (chunks 512 (full (image o next))).length ≤ n := by
    rw [full_chunks]
    have h1 : ((image o next).length + 511) / 512 ≤ each := by omega
    have h2 : h.half.toNat * each ≤ 1 * each := Nat.mul_le_mul_right _ (by omega)
    omega
  have hl := hd_len hok
  have hfl : (full (Hd2.bytes { h with size := (image o next).length, sum := (crc (image o next) : Nat) })).length = 512 := by rw [full_pad hl.1 hl.2]; exact pad_len hl.1
  unfold laid
  simp only
  rw [hpos, show (1 : Int) - h.turn % 2 = (((1 - h.turn % 2).toNat : Nat) : Int) by omega]
  rw [Int.toNat_natCast]
  exact (writesD_live _ f _ hin (chunks_eq (by omega) _ _ (Nat.le_refl _) (full_len _))).andThen (RunsTo.andThen barrierD_live (RunsTo.andThen (writeD_live (by omega) hfl) (RunsTo.andThen barrierD_live (RunsTo.ret n _ _))))
end St
end Go.Proofs.YtcpgbekcbaelpaaGreatDoor
/- Layer 7 in plain words: a batch that is told keeps what the disk holds. No program in sight. -/
namespace Go.Proofs.YtcpgbekcbaelpaaGreatDoor
open Wr
set_option linter.unusedVariables false
set_option linter.unusedSimpArgs false
namespace St
structure Fits (s : Sto) : Prop where
  fit : (image s.objs s.next).length ≤ s.each * 512
  cap : (image s.objs s.next).length ≤ 67108864
  turn : s.hd.turn + 1 ≤ mostAge
  age : s.hd.age + 1 ≤ mostAge
theorem turnOver_any {dec : List UInt8 → Bool} {s : Sto} {n : Nat} {f : Nat → List UInt8} {o0 : Objs} {n0 : Int} {rs : List (List UInt8)} (h : Inv dec s n f o0 n0 rs) {o : Objs} {next : Int} (hob : ObjsOk dec o next) (ff : (image o next).length ≤ s.each * 512) (fc : (image o next).length ≤ 67108864) (ft : s.hd.turn + 1 ≤ mostAge) (fa : s.hd.age + 1 ≤ mostAge) :
    ∃ s' f', RunsTo (s.turnOver o next) n f s' f' ∧ Inv dec s' n f' o next [] ∧ s'.objs = o ∧ s'.next = next ∧ s'.count = s.count ∧ s'.each = s.each ∧ s'.hd.turn = s.hd.turn + 1 ∧ s'.hd.age = s.hd.age + 1 := by
  have hm : mostAge = 4611686018427387904 := rfl
  have hg := h.geo
  have hc3 := h.c3
  have hcr := crc_le (image o next)
  have hla : s.log.age = s.hd.age := by rw [h.log]
  have hlf : s.log.first = 2 := by rw [h.log]
  have hlc : s.log.count = s.count := by rw [h.log]
  have t1 := h.hok.t1
  have a1 := h.hok.a1
  have f1 := h.hok.f1
  have f2 := h.hok.f2
  have hok : Hd2.Ok ⟨s.hd.turn + 1, 1 - s.hd.half, (image o next).length, (crc (image o next) : Nat), s.log.age + 1⟩ :=
    ⟨by show 1 ≤ s.hd.turn + 1; omega, by show s.hd.turn + 1 ≤ _; omega, by show 0 ≤ 1 - s.hd.half; omega, by show 1 - s.hd.half ≤ 1; omega, by show (0 : Int) ≤ ((image o next).length : Int); omega, by show ((image o next).length : Int) ≤ 67108864; omega, by show (0 : Int) ≤ ((crc (image o next) : Nat) : Int); omega, by show ((crc (image o next) : Nat) : Int) ≤ _; omega, by show 1 ≤ s.log.age + 1; omega, by show s.log.age + 1 ≤ _; omega⟩
  have hld := laid_live (n := n) (count := s.count) (each := s.each) (f := f) (o := o) (next := next) (h := ⟨s.hd.turn + 1, 1 - s.hd.half, 0, 0, s.log.age + 1⟩) hok ff hg
  have htr := truncate_live (n := n) (l := s.log) (f := upd (updL f (2 + s.count + (1 - s.hd.half).toNat * s.each) (chunks 512 (full (image o next)))) (1 - (s.hd.turn + 1) % 2).toNat (full (Hd2.bytes ⟨s.hd.turn + 1, 1 - s.hd.half, (image o next).length, (crc (image o next) : Nat), s.log.age + 1⟩))) (by omega) (by omega) (by omega)
  rw [hlf] at htr
  refine ⟨_, _, hld.andThen (htr.andThen (RunsTo.ret n _ _)), ?_, rfl, rfl, rfl, rfl, rfl, by show s.log.age + 1 = _; omega⟩
  -- what lies where
  have g1 : ∀ j, 2 ≤ j → j < s.count → upd (upd (updL f (2 + s.count + (1 - s.hd.half).toNat * s.each) (chunks 512 (full (image o next)))) (1 - (s.hd.turn + 1) % 2).toNat (full (Hd2.bytes ⟨s.hd.turn + 1, 1 - s.hd.half, (image o next).length, (crc (image o next) : Nat), s.log.age + 1⟩))) (2 + (1 - (s.log.age + 1) % 2).toNat) (pad (logHead (s.log.age + 1))) (2 + j) = f (2 + j) := fun j h1 h2 => by
    rw [upd_other (by omega), upd_other (by omega), updL_out _ _ _ _ (Or.inl (by omega))]
  refine { c3 := hc3, e1 := h.e1, geo := hg, nb := h.nb, ob0 := hob, fit := ff, hsz := rfl, hsm := rfl, img := ?_, recs := trivial, log := ?_, room := by show 2 + 0 ≤ s.count; omega, play := rfl, hok := hok, hd1 := ?_, hd2 := ?_, lg1 := ?_, lg2 := ?_, free := ?_, fut := ?_, obs := hob }
  · intro i p hp
    show upd (upd _ _ _) _ _ (2 + s.count + (1 - s.hd.half).toNat * s.each + i) = p
    rw [upd_other (by omega), upd_other (by omega)]
    exact updL_in _ _ _ _ _ hp
  · have e : Lg.mk 2 s.log.count (s.log.age + 1) 0 2 = Lg.mk 2 s.count (s.log.age + 1) 0 2 := by rw [hlc]
    exact e
  · show upd (upd _ _ _) _ _ (1 - (s.hd.turn + 1) % 2).toNat = _
    rw [upd_other (by omega), upd_same]
  · show (readHd (upd (upd _ _ _) _ _ ((s.hd.turn + 1) % 2).toNat)).turn < s.hd.turn + 1
    rw [upd_other (by omega), upd_other (by omega), updL_out _ _ _ _ (Or.inl (by omega)), show ((s.hd.turn + 1) % 2).toNat = (1 - s.hd.turn % 2).toNat by omega, h.hd1, readHd_full h.hok]
    omega
  · show upd (upd _ _ _) _ _ (2 + (1 - (s.log.age + 1) % 2).toNat) = _
    exact upd_same ..
  · show ageOf (upd (upd _ _ _) _ _ (2 + ((s.log.age + 1) % 2).toNat)) < s.log.age + 1
    rw [upd_other (by omega), upd_other (by omega), updL_out _ _ _ _ (Or.inl (by omega)), show ((s.log.age + 1) % 2).toNat = (1 - s.hd.age % 2).toNat by omega, h.lg1, ageOf_full a1 (by omega)]
    omega
  · intro j h1 h2
    show NoRec (upd (upd _ _ _) _ _ (2 + j)) (s.log.age + 1)
    have h1' : 2 ≤ j := by have : 2 + 0 ≤ j := h1; omega
    have h2' : j < s.count := h2
    rw [g1 j h1' h2']
    exact h.fut j _ h1' h2' (by omega)
  · intro j a h1 h2 h3
    show NoRec (upd (upd _ _ _) _ _ (2 + j)) a
    have h2' : j < s.count := h2
    have h3' : s.log.age + 1 < a := h3
    rw [g1 j h1 h2']
    exact h.fut j _ h1 h2' (by omega)
theorem turnOver_live {dec : List UInt8 → Bool} {s : Sto} {n : Nat} {f : Nat → List UInt8} {o0 : Objs} {n0 : Int} {rs : List (List UInt8)} (h : Inv dec s n f o0 n0 rs) (hf : Fits s) :
    ∃ s' f', RunsTo (s.turnOver s.objs s.next) n f s' f' ∧ Inv dec s' n f' s.objs s.next [] ∧ s'.objs = s.objs ∧ s'.next = s.next ∧ s'.count = s.count ∧ s'.each = s.each ∧ s'.hd.turn = s.hd.turn + 1 ∧ s'.hd.age = s.hd.age + 1 :=
  turnOver_any h h.obs hf.fit hf.cap hf.turn hf.age
theorem recsAt_snoc {s : Nat → List UInt8} {age : Int} {b : List UInt8} : ∀ (l : List (List UInt8)) (n : Int) (at' : Nat), RecsAt s age l n at' → RecsAt s age [b] (n + l.length) (at' + sectorsOf l) → RecsAt s age (l ++ [b]) n at'
  | [], n, at', _, h => by simpa [sectorsOf] using h
  | c :: l, n, at', h, h2 => by
    obtain ⟨r1, r2, r3, r4, r5⟩ := h
    refine ⟨r1, r2, r3, r4, recsAt_snoc l _ _ r5 ?_⟩
    have e1 : n + 1 + (l.length : Int) = n + ((c :: l).length : Int) := by rw [List.length_cons]; omega
    have e2 : at' + need c.length + sectorsOf l = at' + sectorsOf (c :: l) := by
      have hs : sectorsOf (c :: l) = need c.length + sectorsOf l := rfl
      omega
    rw [e1, e2]
    exact h2
theorem sectorsOf_snoc (b : List UInt8) : ∀ l : List (List UInt8), sectorsOf (l ++ [b]) = sectorsOf l + need b.length
  | [] => by simp [sectorsOf]
  | c :: l => by
    rw [List.cons_append, sectorsOf, sectorsOf, sectorsOf_snoc b l]
    omega
theorem replays_snoc {dec : List UInt8 → Bool} {b : List UInt8} : ∀ (l : List (List UInt8)) (o : Objs) (n : Int) (p : Objs × Int), replays dec l o n = some p → replays dec (l ++ [b]) o n = replay dec b p.1 p.2
  | [], o, n, p, h => by
    rw [replays] at h
    cases h
    rw [List.nil_append, replays]
    cases replay dec b o n <;> rfl
  | c :: l, o, n, p, h => by
    rw [replays] at h
    rw [List.cons_append, replays]
    cases hr : replay dec c o n with
    | none => rw [hr] at h; cases h
    | some q => rw [hr] at h; exact replays_snoc l _ _ _ h
end St
end Go.Proofs.YtcpgbekcbaelpaaGreatDoor
