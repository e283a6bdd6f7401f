/- The reference's Read of digits. -/
import Derived.Test.YtlailomhgipppaaGreatDoorNumRead
namespace Go.Proofs.YtlailomhgipppaaGreatDoor
open Go.RowKit
set_option linter.unusedVariables false
set_option linter.unusedSimpArgs false

theorem all_false {l : List UInt8} {j : Nat} {c : UInt8} (h : l[j]? = some c) (hc : ¬ (48 ≤ c.toNat ∧ c.toNat ≤ 57)) : l.all isDig = false := by
  have : isDig c = false := by rw [← Bool.not_eq_true, isDig_iff]; exact hc
  rw [List.all_eq_false]
  exact ⟨c, List.mem_of_getElem? h, by rw [this]; simp⟩
theorem dval_snoc {l : List UInt8} {j : Nat} {c : UInt8} (h : l[j]? = some c) : dval 0 (l.take (j + 1)) = dval 0 (l.take j) * 10 + (c.toNat - 48) := by
  rw [List.take_add_one, h]
  show dval 0 (l.take j ++ [c]) = _
  rw [dval_app, dval_cons, dval_nil]
theorem all_snoc {l : List UInt8} {j : Nat} {c : UInt8} (h : l[j]? = some c) (h1 : (l.take j).all isDig = true) (hc : 48 ≤ c.toNat ∧ c.toNat ≤ 57) : (l.take (j + 1)).all isDig = true := by
  rw [List.take_add_one, h, List.all_append, h1]
  simpa using isDig_iff.2 hc
def RdLoop (r : List UInt8) (j0 : Nat) (W : World) (gk : Nat) (s5 s6 s7 : Value) (wr : World) : Prop :=
  ∃ (k j : Nat) (n : Int) (big : Bool), Hid (k = j + j0) ∧ s5 = .int .i64 (k : Int) ∧ s6 = .int .u64 n ∧ s7 = .bool big ∧ j + gk = r.length ∧ (r.take j).all isDig = true ∧ 0 ≤ n ∧
    ((big = false ∧ n = (dval 0 (r.take j) : Int) ∧ n ≤ 4611686018427387904) ∨ (big = true ∧ 4611686018427387904 < dval 0 (r.take j))) ∧ wr = W
set_option maxRecDepth 100000 in
set_option maxHeartbeats 1600000 in
theorem refRead_any (s : ByteArray) (hmax : s.size ≤ 1000000) (w : World) :
    Calls Tryz.prog 16 #[.string s] w fun e w' => e = .returned (.tuple #[.int .i64 (readF s.data.toList).1, .int .i64 (readF s.data.toList).2]) ∧ w' = w := by
  have hsz := Lib.size_eq s
  obtain ⟨l, hl⟩ : ∃ l, l = s.data.toList := ⟨_, rfl⟩
  rw [← hl] at hsz ⊢
  have hat : ∀ (k : Nat) (hk : k < s.size) (c : UInt8), l[k]? = some c → s[k]'hk = c := fun k hk c hc => by
    have := Lib.getD_at s k hk
    rw [← hl, List.getD_eq_getElem?_getD, hc] at this
    exact this
  clear hl
  cases l with
  | nil =>
    have hs0 : s.size = 0 := hsz
    have hr : readF [] = (0, 2) := rfl
    clear hat hsz
    rw [hr]
    clear hr
    go_enter Tryz.func16, Tryz.ntmps16
    go_wp2
    go_ret2
    exact ⟨rfl, rfl⟩
  | cons c0 r0 =>
    have hlen : s.size = r0.length + 1 := hsz
    have hpos : 0 < s.size := by omega
    have hs0 := hat 0 hpos c0 rfl
    have HAT := Lib.hid hat
    clear hsz hat
    obtain ⟨neg, j0, r, hneg, hst, hr, hrl, hrc⟩ : ∃ (neg : Bool) (j0 : Nat) (r : List UInt8), (neg = true ↔ c0 = 45) ∧ (neg = true ∧ j0 = 1 ∨ neg = false ∧ j0 = 0) ∧ unsignedT (c0 :: r0) = r ∧ r.length + j0 = s.size ∧ ∀ (j : Nat) (hj : j + j0 < s.size) (c : UInt8), r[j]? = some c → s[j + j0]'hj = c := by
      by_cases h45 : c0 = 45
      · subst h45
        exact ⟨true, 1, r0, by simp, .inl ⟨rfl, rfl⟩, rfl, by omega, fun j hj c hc => HAT.out (j + 1) hj c (by rw [List.getElem?_cons_succ]; exact hc)⟩
      · exact ⟨false, 0, c0 :: r0, by simp [h45], .inr ⟨rfl, rfl⟩, by unfold unsignedT; rw [if_neg (head_ne h45 _)], by simp; omega, fun j hj c hc => HAT.out j hj c hc⟩
    have HRC := Lib.hid hrc
    have HN := Lib.hid hneg
    have HRF : Hid (readF (c0 :: r0) = if r = [] ∨ r.all isDig = false then (0, 2) else if neg = true then if 4611686018427387904 < dval 0 r then (0, 4) else (-(dval 0 r : Int), 0) else if 4611686018427387904 ≤ dval 0 r then (0, 4) else ((dval 0 r : Int), 0)) := by
      show _ = _
      unfold readF
      rw [hr]
      have e : ((c0 :: r0).head? = some 45) ↔ neg = true := by rw [hneg]; simp
      simp only [e]
    have hin : (if neg = true then c0 = 45 else ¬ c0 = 45) := by
      cases neg
      · rw [if_neg (by simp)]; exact fun e => absurd (hneg.2 e) (by simp)
      · rw [if_pos rfl]; exact hneg.1 rfl
    have hbq : ((c0.toNat : Int) == 45) = neg := by
      cases neg
      · rw [if_neg (by simp)] at hin
        rw [beq_eq_false_iff_ne]
        intro e
        exact hin (UInt8.toNat_inj.1 (by show c0.toNat = 45; omega))
      · rw [if_pos rfl] at hin
        rw [hin]; rfl
    have HRL := Lib.hid hrl
    generalize readF (c0 :: r0) = R at HRF ⊢
    clear hrc hneg hr hin HAT HN hlen hrl
    go_enter Tryz.func16, Tryz.ntmps16
    go_upto_if 15 with fail
    clear hbq
    go_cut [4, 5] (fun s4 s5 wz => s4 = .bool neg ∧ s5 = .int .i64 (j0 : Int) ∧ w = wz)
    case first =>
      rcases hst with ⟨rfl, rfl⟩ | ⟨rfl, rfl⟩
      · go_wp2
        go_meet
        exact ⟨rfl, rfl, rfl⟩
      · go_wp2
        go_meet
        exact ⟨rfl, rfl, rfl⟩
    case rest =>
      obtain ⟨rfl, rfl, hwz⟩ := hcut
      subst hwz
      clear hpos hs0
      have hj0 : j0 ≤ 1 := by omega
      by_cases hr0 : r = []
      · subst hr0
        have h9 : (j0 : Int) = (s.size : Int) := by have := HRL.out; simp at this; omega
        have HR2 : Hid (R = (0, 2)) := HRF.out.trans (if_pos (.inl rfl))
        clear hst
        go_wp2
        go_ret2
        exact ⟨by rw [HR2.out]; rfl, rfl⟩
      · have hrn : 0 < r.length := List.length_pos_iff.2 hr0
        have h9 : (j0 : Int) < (s.size : Int) := by have := HRL.out; omega
        have HL : Hid (RdLoop r j0 w r.length (.int .i64 (j0 : Int)) (.int .u64 0) (.bool false) w) := ⟨j0, 0, 0, false, (Nat.zero_add _).symm, rfl, rfl, rfl, by omega, by simp, by omega, .inl ⟨rfl, rfl, by omega⟩, rfl⟩
        have HR0 := Lib.hid hr0
        have HST := Lib.hid hst
        have h9b : ((j0 : Int) == (s.size : Int)) = false := by rw [beq_eq_false_iff_ne]; omega
        clear hr0 hst hrn
        go_wp2
        go_loopg [5, 6, 7] r.length (fun gk s5 s6 s7 wr => RdLoop r j0 w gk s5 s6 s7 wr)
        case atStart => exact HL.out
        case round =>
          clear HL h9 h9b
          obtain ⟨k, j, n, big, HK, rfl, rfl, rfl, hjk, hall, hn0, hbig, rfl⟩ := hrel
          have HJ := Lib.hid hjk
          have HALL := Lib.hid hall
          have HBIG := Lib.hid hbig
          clear hjk hall hbig
          by_cases hlt : k < s.size
          · have hlj : j < r.length := by have := HRL.out; have := HK.out; omega
            have g1 : (k : Int) < (s.size : Int) := by omega
            have g0 : (0 : Int) ≤ (k : Int) := by omega
            obtain ⟨c, hc⟩ : ∃ c, r[j]? = some c := ⟨_, List.getElem?_eq_getElem hlj⟩
            have hsc : s[k] = c := by
              have e := HK.out
              have := HRC.out j (by omega) c hc
              simpa only [e] using this
            have HCJ := Lib.hid hc
            obtain ⟨d, hd⟩ : ∃ d : Int, (c.toNat : Int) = d := ⟨_, rfl⟩
            have HD := Lib.hid hd
            clear hc hlj HD
            by_cases hdig : 48 ≤ c.toNat ∧ c.toNat ≤ 57
            · have d0 : ¬ d < 48 := by omega
              have d1 : ¬ 57 < d := by omega
              have HA2 := Lib.hid (all_snoc HCJ.out HALL.out hdig)
              have HDV := Lib.hid (dval_snoc HCJ.out)
              have HDI := Lib.hid hdig
              clear hdig
              have hlj : j < r.length := (List.getElem?_eq_some_iff.1 HCJ.out).1
              have HLJ := Lib.hid hlj
              clear hlj
              cases big with
              | true =>
                go_wp2
                go_roundg (gk - 1)
                case measure => have := HJ.out; have := HLJ.out; omega
                case rel =>
                  refine ⟨k + 1, j + 1, n, true, by have := HK.out; show _ = _; omega, by go_num, rfl, rfl, by have := HJ.out; have := HLJ.out; omega, HA2.out, hn0, .inr ⟨rfl, ?_⟩, rfl⟩
                  rcases HBIG.out with ⟨e, _⟩ | ⟨_, e⟩
                  · cases e
                  · rw [HDV.out]; omega
              | false =>
                have HB2 : Hid (n = (dval 0 (r.take j) : Int) ∧ n ≤ 4611686018427387904) := by
                  rcases HBIG.out with ⟨_, e⟩ | ⟨e, _⟩
                  · exact e
                  · cases e
                by_cases h1 : 461168601842738790 < n
                · go_wp2
                  go_roundg (gk - 1)
                  case measure => have := HJ.out; have := HLJ.out; omega
                  case rel => exact ⟨k + 1, j + 1, n, true, by have := HK.out; show _ = _; omega, by go_num, rfl, rfl, by have := HJ.out; have := HLJ.out; omega, HA2.out, hn0, .inr ⟨rfl, by rw [HDV.out]; have := HB2.out; omega⟩, rfl⟩
                · have h2 : n ≤ 461168601842738790 := by omega
                  clear h1
                  have HNV : Hid (n * 10 + (d - 48) = (dval 0 (r.take (j + 1)) : Int)) := by
                    show _ = _
                    rw [HDV.out]
                    have := HB2.out
                    have := HDI.out
                    omega
                  by_cases h3 : 4611686018427387904 < n * 10 + (d - 48)
                  · have h4 : decide (4611686018427387904 < n * 10 + (d - 48)) = true := decide_eq_true h3
                    go_wp2
                    go_roundg (gk - 1)
                    case measure => have := HJ.out; have := HLJ.out; omega
                    case rel => exact ⟨k + 1, j + 1, n * 10 + (d - 48), true, by have := HK.out; show _ = _; omega, by go_num, by go_num, by first | rfl | simp [h4] | simp [h3], by have := HJ.out; have := HLJ.out; omega, HA2.out, by omega, .inr ⟨rfl, by have := HNV.out; omega⟩, rfl⟩
                  · have h4 : decide (4611686018427387904 < n * 10 + (d - 48)) = false := decide_eq_false h3
                    go_wp2
                    go_roundg (gk - 1)
                    case measure => have := HJ.out; have := HLJ.out; omega
                    case rel => exact ⟨k + 1, j + 1, n * 10 + (d - 48), false, by have := HK.out; show _ = _; omega, by go_num, by go_num, by first | rfl | simp [h4] | simp [h3], by have := HJ.out; have := HLJ.out; omega, HA2.out, by omega, .inl ⟨rfl, HNV.out, by omega⟩, rfl⟩
            · have HR2 : Hid (R = (0, 2)) := HRF.out.trans (if_pos (.inr (all_false HCJ.out hdig)))
              by_cases d0 : d < 48
              · clear hdig
                go_wp2
                go_ret2
                exact ⟨by rw [HR2.out]; rfl, rfl⟩
              · have d1 : 57 < d := by omega
                have d2 : ¬ d < 48 := d0
                clear hdig
                go_wp2
                go_ret2
                exact ⟨by rw [HR2.out]; rfl, rfl⟩
          · have hj : j = r.length := by have := HRL.out; have := HK.out; have := HJ.out; omega
            have hal := HALL.out
            have hbg := HBIG.out
            rw [hj, List.take_length] at hal hbg
            have hc : ¬ (r = [] ∨ r.all isDig = false) := by simp [HR0.out, hal]
            have hk2 : ¬ (k : Int) < (s.size : Int) := by omega
            have HRF2 : Hid (R = if neg = true then if 4611686018427387904 < dval 0 r then (0, 4) else (-(dval 0 r : Int), 0) else if 4611686018427387904 ≤ dval 0 r then (0, 4) else ((dval 0 r : Int), 0)) := HRF.out.trans (if_neg hc)
            clear hlt hj hal hc HRF
            rcases hbg with ⟨rfl, rfl, hle⟩ | ⟨rfl, hgt⟩
            · cases neg with
              | true =>
                have hb : Hid (R = (-(dval 0 r : Int), 0)) := HRF2.out.trans (by rw [if_pos rfl, if_neg (by omega)])
                generalize (dval 0 r : Int) = n at hle hn0 hb
                have hw : wrap64 (-n) = -n := by unfold wrap64; omega
                by_cases he : n = 4611686018427387904
                · subst he
                  go_wp2
                  go_ret2
                  exact ⟨by rw [hb.out]; rfl, rfl⟩
                · have hne : (n == 4611686018427387904) = false := by rw [beq_eq_false_iff_ne]; omega
                  clear he
                  go_wp2
                  go_ret2
                  exact ⟨by rw [hb.out]; rfl, rfl⟩
              | false =>
                by_cases he : dval 0 r = 4611686018427387904
                · have hb : Hid (R = (0, 4)) := HRF2.out.trans (by rw [if_neg (by simp), if_pos (by omega)])
                  rw [he]
                  go_wp2
                  go_ret2
                  exact ⟨by rw [hb.out]; rfl, rfl⟩
                · have hb : Hid (R = ((dval 0 r : Int), 0)) := HRF2.out.trans (by rw [if_neg (by simp), if_neg (by omega)])
                  have hne : ((dval 0 r : Int) == 4611686018427387904) = false := by rw [beq_eq_false_iff_ne]; omega
                  generalize (dval 0 r : Int) = n at hle hn0 hb hne
                  clear he
                  go_wp2
                  go_ret2
                  exact ⟨by rw [hb.out]; rfl, rfl⟩
            · have hb : Hid (R = (0, 4)) := HRF2.out.trans (by cases neg <;> simp <;> omega)
              clear hgt HRF2
              go_wp2
              go_ret2
              exact ⟨by rw [hb.out]; rfl, rfl⟩
end Go.Proofs.YtlailomhgipppaaGreatDoor
