/- Texts of the proof, in build order: StNx. -/
import Derived.Test.YtcpgbekcbaelpaaGreatDoorC32
import Derived.Test.YtcpgbekcbaelpaaGreatDoorC09
set_option linter.unusedVariables false
set_option linter.unusedSimpArgs false
set_option linter.unusedSectionVars false
/- The law of a store's next number: the walk. -/
namespace Go.Proofs.YtcpgbekcbaelpaaGreatDoor
open Go.RowKit Go.Shelf Go.Maps Wr
set_option linter.unusedVariables false
set_option linter.unusedSimpArgs false
theorem mod1000 (a : Int) : ∃ m : Nat, wrap64 ((IntKind.u64.wrap a).tmod 1000) = (m : Int) ∧ m < 1000 := by
  have e1 : IntKind.u64.wrap a = a % 18446744073709551616 := rfl
  have h0 : 0 ≤ IntKind.u64.wrap a := by omega
  rw [Int.tmod_eq_emod_of_nonneg h0]
  refine ⟨(IntKind.u64.wrap a % 1000).toNat, ?_, by omega⟩
  unfold wrap64
  omega
theorem Sg.later {w : World} {b g n : Nat} {s : St.Sto} {D : St.Dk} {t t' : Int} {A : Nat → Prop} (h : Sg w b g s D n t A) (ht : t ≤ t') : Sg w b g s D n t' A := by
  obtain ⟨f, h1, h2⟩ := h.live
  exact { h with live := ⟨f, h1, { h2 with turn := Int.le_trans h2.turn ht, age := Int.le_trans h2.age ht }⟩ }
/-- A store that is empty, behind so many rounds. -/
def NxI (w : World) (g K : Nat) (gk : Nat) (s6 s8 s9 : Value) (X : World) : Prop :=
  ∃ (i b : Nat) (s : St.Sto) (D : St.Dk) (most : Int), s9 = .int .i64 (i : Int) ∧ i + gk = K ∧ s6 = .pointer (some ⟨b, 0, none⟩) ∧ s8 = .int .i64 most ∧ Sg X b g s D 40 (1 + 3 * (i : Int)) (fun k => w.heap.size ≤ k) ∧ (s.objs = [] ∧ s.next = most + 1 ∧ s.count = 10 ∧ s.each = 14) ∧ (0 ≤ most ∧ most ≤ 1000) ∧ Below w.heap.size w X
set_option maxRecDepth 100000 in
set_option maxHeartbeats 8000000 in
theorem storeNexts_walk (ids jobs : List Int) (vi vj : Value) (w : World) (hT : Half w) (hi : IntsAt w vi ids) (hj : IntsAt w vj jobs) :
    Calls Tryz.prog 3 #[vi, vj] w fun e w' => e = .returned (.bool true) ∧ Below w.heap.size w w' := by
  obtain ⟨ai, ci, rfl, _, hcm⟩ := hi.form
  obtain ⟨aj, cj, rfl, _, hcn⟩ := hj.form
  have HT := Lib.hid hT
  have HI := Lib.hid hi
  have HJ := Lib.hid hj
  have hni : ids.length ≤ maxLen := by omega
  have hnj : jobs.length ≤ maxLen := by omega
  obtain ⟨n, hn⟩ : ∃ n, ids.length = n := ⟨_, rfl⟩
  obtain ⟨nj, hnn⟩ : ∃ nj, jobs.length = nj := ⟨_, rfl⟩
  rw [hn] at HI ⊢
  rw [hnn] at HJ ⊢
  have HN : Hid (ids.length = n ∧ n ≤ maxLen) := ⟨hn, by omega⟩
  have HNJ : Hid (jobs.length = nj ∧ nj ≤ maxLen) := ⟨hnn, by omega⟩
  clear hT hi hj hni hnj hn hnn hcm hcn
  go_enter Tryz.func3, Tryz.ntmps3
  go_wp2_with (first
    | (go_at_call 9; (with_reducible refine (fresh_any HT.out).mono ?_); rintro e w1 ⟨g, b, s, D, rfl, hb, hs, e1, e2, e3, e4⟩; have HB1 := Lib.hid hb; have HS1 := Lib.hid hs; have HE1 : Hid (s.objs = [] ∧ s.next = 1 ∧ s.count = 10 ∧ s.each = 14) := ⟨e1, e2, e3, e4⟩; clear hb hs e1 e2 e3 e4)
    | (go_at_call 10; (with_reducible refine (stores_any (HT.out.below HB1.out)).mono ?_); rintro e w2 ⟨rfl, hb⟩; have HB2 := Lib.hid hb; clear hb))
  obtain ⟨K, hK⟩ : ∃ K, min n 20 = K := ⟨_, rfl⟩
  have HK : Hid (K ≤ n ∧ K ≤ 20 ∧ (K = n ∨ K = 20)) := Lib.hid (by omega)
  clear hK
  go_loopg [6, 8, 9, 10, 11, 12] K (fun gk s6 s8 s9 s10 s11 s12 wr => NxI w g K gk s6 s8 s9 wr)
  case atStart => exact ⟨0, b, s, D, 0, rfl, by omega, rfl, rfl, HS1.out.below HB2.out, HE1.out, by omega, HB1.out.trans (HB2.out.mono HB1.out.size)⟩
  case round =>
    obtain ⟨i, b, s, D, most, rfl, hik, rfl, rfl, hs, he, hm, hb⟩ := hrel
    have HS := Lib.hid hs
    have HE := Lib.hid he
    have HM := Lib.hid hm
    have HB := Lib.hid hb
    have HIK := Lib.hid hik
    have i0 : (0 : Int) ≤ (i : Int) := by omega
    clear hs he hm hb
    by_cases hlt : i < K
    · have hkn := HK.out
      have i1 : (i : Int) < (n : Int) := by omega
      have i2 : (i : Int) < 20 := by omega
      have HLT : Hid (i < K) := hlt
      clear hik hlt hkn
      go_upto_region 8 with fail
      obtain ⟨x, hx⟩ : ∃ x, ids[i]? = some x := ⟨_, List.getElem?_eq_getElem (by have := HN.out.1; have := HLT.out; have := HK.out; omega)⟩
      obtain ⟨gi, oi, rfl, hgl, hgc⟩ := HI.out.at hx
      have HGC : Hid (∀ X, Below w.heap.size w X → X.cell? ⟨gi, oi + i, none⟩ = some (.int .i64 x)) := fun X hX => (hX.cell (p := ⟨gi, oi + i, none⟩) hgl).trans hgc
      have hc1 := HGC.out wr HB.out
      obtain ⟨m, hm1, hm2⟩ : ∃ m : Nat, wrap64 ((IntKind.u64.wrap x).tmod 1000) = (m : Int) ∧ m < 1000 := mod1000 x
      have HM1 := Lib.hid hm1
      clear hm1
      obtain ⟨id, hid⟩ : ∃ id : Int, 1 + (m : Int) = id := ⟨_, rfl⟩
      have HID : Hid (1 ≤ id ∧ id ≤ 1000) := Lib.hid (by omega)
      have hidw : (Lit.int .i64 id).wf = true := WalkArith.wf_i64 (by omega)
      have hiw : (Lit.int .i64 (i : Int)).wf = true := WalkArith.wf_i64 (by omega)
      have HWF : Hid ((Lit.int .i64 id).wf = true ∧ (Lit.int .i64 (i : Int)).wf = true ∧ i < 20) := ⟨hidw, hiw, by omega⟩
      have hw1 : IntKind.i64.wrap (1 + (m : Int)) = id := by rw [IntWalk.i64_left, IntWalk.wrap64_in _ ⟨by omega, by omega⟩]; exact hid
      have hm1 := HM1.out
      clear hx hgl hgc hm2 hid hidw hiw
      go_upto_region 9 with fail
      clear hm1 hw1 hc1
      go_upto_region 11 with (first
        | (go_at_call 11; have hq := Sg.put (id := id) (x := (i : Int)) (HS.out.below ((Below.refl _ wr).alloc (Nat.le_refl _) _)) (by have := HWF.out; omega) HE.out.1 (by rw [HE.out.2.2.1]; omega) (by have := HID.out; omega) (by have := HWF.out; omega) (chs_one wr id (i : Int) false HWF.out.1 HWF.out.2.1) (fun k hk => by simpa using hk); (with_reducible refine hq.mono ?_); clear hq; rintro e w3 ⟨rfl, ht, s3, D3, o3, hs, e1, e2, e3, e4⟩; have HT3 := Lib.hid ht; have HS3 := Lib.hid hs; have HE3 : Hid (s3.objs = [(id, o3)] ∧ s3.next = max (most + 1) (id + 1) ∧ s3.count = 10 ∧ s3.each = 14) := ⟨e1, by rw [e2, HE.out.2.1], e3.trans HE.out.2.2.1, e4.trans HE.out.2.2.2⟩; clear ht hs e1 e2 e3 e4)
        | (go_at_call 11; go_loud (have hq := Sg.gone (id := id) (HS3.out.below ((Below.refl _ w3).alloc (Nat.le_refl _) _)) (by have := HWF.out; omega) HE3.out.1 (by rw [HE3.out.2.2.1]; omega) (by have := HID.out; omega) (chs_one w3 id 0 true HWF.out.1 (by decide)) (fun k hk => by simpa using hk); (with_reducible refine hq.mono ?_); clear hq; rintro e w4 ⟨rfl, ht, s4, D4, hs, e1, e2, e3, e4⟩; have HT4 := Lib.hid ht; have HS4 := Lib.hid hs; have HE4 : Hid (s4.objs = [] ∧ s4.next = max (max (most + 1) (id + 1)) (id + 1) ∧ s4.count = 10 ∧ s4.each = 14) := ⟨e1, by rw [e2, HE3.out.2.1], e3.trans HE3.out.2.2.1, e4.trans HE3.out.2.2.2⟩; clear ht hs e1 e2 e3 e4)))
      obtain ⟨mx, hmx⟩ : ∃ mx, max most id = mx := ⟨_, rfl⟩
      have HMX : Hid (0 ≤ mx ∧ mx ≤ 1000 ∧ s4.next = mx + 1) := Lib.hid (by have := HM.out; have := HID.out; have := HE4.out.2.1; omega)
      have hB4 : Below w.heap.size w w4 ∧ Sg w4 b g s4 D4 40 (1 + 3 * (i : Int) + 1 + 1) (fun k => w.heap.size ≤ k) := by
        have hz1 := HB.out.size
        have hz3 := HT3.out.size
        have hz4 := HT4.out.size
        rw [size_alloc] at hz3 hz4
        have hg2 : ∀ k, Gro (fun k => w.heap.size ≤ k) (wr.alloc (.cells #[.int .i64 id, .int .i64 0, .int .i64 (i : Int), .string ⟨#[]⟩, .slice none 0 0, .bool false] 35)).heap.size k → w.heap.size ≤ k := fun k hk => by
          rcases hk with hk | hk
          · exact hk
          · rw [size_alloc] at hk; omega
        have b3 := (HB.out.alloc hz1 (.cells #[.int .i64 id, .int .i64 0, .int .i64 (i : Int), .string ⟨#[]⟩, .slice none 0 0, .bool false] 35)).trans (HT3.out.below (by rw [size_alloc]; omega) (fun k h => h))
        refine ⟨(b3.alloc (by omega) (.cells #[.int .i64 id, .int .i64 0, .int .i64 0, .string ⟨#[]⟩, .slice none 0 0, .bool true] 35)).trans (HT4.out.below (by rw [size_alloc]; omega) hg2), HS4.out.mono (fun k hk => ?_)⟩
        rcases hk with hk | hk
        · exact hg2 k hk
        · rw [size_alloc] at hk; omega
      have HB4 := Lib.hid hB4.1
      have HS4' := Lib.hid hB4.2
      clear HS4 HT3 HT4 HS3 HE3 hB4
      go_upto_region 12 with fail
      obtain ⟨nx, hnx⟩ : ∃ nx, mx + 1 = nx := ⟨_, rfl⟩
      have HNX := Lib.hid hnx
      have HMB : Hid (0 ≤ mx ∧ mx ≤ 1000) := ⟨HMX.out.1, HMX.out.2.1⟩
      have HE4' : Hid (s4.objs = [] ∧ s4.next = nx ∧ s4.count = 10 ∧ s4.each = 14) := ⟨HE4.out.1, HMX.out.2.2.trans hnx, HE4.out.2.2⟩
      have HIL : Hid ((i : Int) ≤ 20) := Lib.hid (by omega)
      have hwn : IntKind.i64.wrap (mx + 1) = nx := by
        have := HMX.out
        rw [IntWalk.i64_left, IntWalk.wrap64_in _ ⟨by omega, by omega⟩]
        exact hnx
      clear HE4 HMX hmx hnx
      by_cases hjn : i < nj
      · obtain ⟨y, hy⟩ : ∃ y, jobs[i]? = some y := ⟨_, List.getElem?_eq_getElem (by have := HNJ.out.1; omega)⟩
        obtain ⟨gj, oj, rfl, hjl, hjc⟩ := HJ.out.at hy
        have hjc4 : w4.cell? ⟨gj, oj + i, none⟩ = some (.int .i64 y) := (HB4.out.cell (p := ⟨gj, oj + i, none⟩) hjl).trans hjc
        have hj1 : (i : Int) < (nj : Int) := by omega
        obtain ⟨r, hr, hr1, hr2⟩ : ∃ r, y.tmod 3 = r ∧ -3 < r ∧ r < 3 := ⟨_, rfl, by have := Int.lt_tmod_of_pos y (show (0 : Int) < 3 by decide); omega, Int.tmod_lt_of_pos y (by decide)⟩
        have hr3 : IntKind.i64.wrap r = r := by rw [IntWalk.i64_left, IntWalk.wrap64_in _ ⟨by omega, by omega⟩]
        have HJ4 := Lib.hid hjc4
        have HJL : Hid (gj < w.heap.size ∧ w.heap.size ≤ w4.heap.size) := ⟨hjl, HB4.out.size⟩
        clear hy hjl hjc hr1 hr2
        by_cases h0 : r = 0
        · subst h0
          go_wp2_with (first
            | (go_at_call 12; go_loud (have hq := HS4'.out.checkpoint (by have := HIL.out; omega); (with_reducible refine hq.mono ?_); clear hq; rintro e w5 ⟨rfl, ht, s5, D5, hs, e1, e2, e3, e4⟩; have HT5 := Lib.hid ht; have HS5 := Lib.hid hs; have HE5 : Hid (s5.objs = [] ∧ s5.next = nx ∧ s5.count = 10 ∧ s5.each = 14) := ⟨e1.trans HE4'.out.1, e2.trans HE4'.out.2.1, e3.trans HE4'.out.2.2.1, e4.trans HE4'.out.2.2.2⟩; have hjc5 := (ht.cell (p := ⟨gj, oj + i, none⟩) (by have := HJL.out; show gj < _; omega) (by have := HJL.out; show ¬ w.heap.size ≤ gj; omega)).trans HJ4.out; clear ht hs e1 e2 e3 e4))
            | (go_at_call 14; go_loud (have hq := HS5.out.next; rw [HE5.out.2.1] at hq; (with_reducible refine hq.mono ?_); clear hq; rintro e w7 ⟨rfl, rfl⟩))
            | (go_at_call 15; go_loud (have hq := HS5.out.ids; rw [HE5.out.1] at hq; (with_reducible refine hq.mono ?_); clear hq; rintro e w8 ⟨v8, rfl, hr, _, hb⟩; obtain ⟨a8, c8, hv8, _⟩ := hr.form; replace hv8 : v8 = .slice a8 0 c8 := hv8; subst hv8; have HB8 := Lib.hid hb; clear hr hb)))
          go_roundg (gk - 1)
          case measure => have := HIK.out; have := HLT.out; omega
          case rel =>
            have hz4 := HB4.out.size
            have hz5 := HT5.out.size
            have b5 := HB4.out.trans (HT5.out.below hz4 (fun k h => h))
            exact ⟨i + 1, b, s5, D5, mx, by go_num, by have := HIK.out; have := HLT.out; omega, rfl, rfl, ((HS5.out.mono (fun k hk => by rcases hk with hk | hk; exact hk; show _ ≤ _; omega)).below HB8.out).later (by have := HIL.out; omega), ⟨HE5.out.1, HE5.out.2.1.trans HNX.out.symm, HE5.out.2.2⟩, HMB.out, b5.trans (HB8.out.mono (by omega))⟩
        · by_cases h1 : r = 1
          · subst h1
            go_wp2_with (first
              | (go_at_call 13; go_loud (have hq := HS4'.out.opened (log := 10) (by rw [HE4'.out.2.2.1, HE4'.out.2.2.2]; exact lay_40); (with_reducible refine hq.mono ?_); clear hq; rintro e w5 ⟨b5, D5, rfl, ht, hs⟩; have HT5 := Lib.hid ht; have HS5 := Lib.hid hs; clear ht hs))
              | (go_at_call 14; go_loud (have hq := HS5.out.next; rw [HE4'.out.2.1] at hq; (with_reducible refine hq.mono ?_); clear hq; rintro e w7 ⟨rfl, rfl⟩))
              | (go_at_call 15; go_loud (have hq := HS5.out.ids; rw [HE4'.out.1] at hq; (with_reducible refine hq.mono ?_); clear hq; rintro e w8 ⟨v8, rfl, hr, _, hb⟩; obtain ⟨a8, c8, hv8, _⟩ := hr.form; replace hv8 : v8 = .slice a8 0 c8 := hv8; subst hv8; have HB8 := Lib.hid hb; clear hr hb)))
            go_roundg (gk - 1)
            case measure => have := HIK.out; have := HLT.out; omega
            case rel =>
              have hz4 := HB4.out.size
              have hz5 := HT5.out.size
              have b5' := HB4.out.trans (HT5.out.below hz4 (fun k h => h))
              exact ⟨i + 1, b5, s4, D5, mx, by go_num, by have := HIK.out; have := HLT.out; omega, rfl, rfl, ((HS5.out.mono (fun k hk => by rcases hk with hk | hk; exact hk; show _ ≤ _; omega)).below HB8.out).later (by have := HIL.out; omega), ⟨HE4'.out.1, HE4'.out.2.1.trans HNX.out.symm, HE4'.out.2.2⟩, HMB.out, b5'.trans (HB8.out.mono (by omega))⟩
          · go_wp2_with (first
              | (go_at_call 14; go_loud (have hq := HS4'.out.next; rw [HE4'.out.2.1] at hq; (with_reducible refine hq.mono ?_); clear hq; rintro e w7 ⟨rfl, rfl⟩))
              | (go_at_call 15; go_loud (have hq := HS4'.out.ids; rw [HE4'.out.1] at hq; (with_reducible refine hq.mono ?_); clear hq; rintro e w8 ⟨v8, rfl, hr, _, hb⟩; obtain ⟨a8, c8, hv8, _⟩ := hr.form; replace hv8 : v8 = .slice a8 0 c8 := hv8; subst hv8; have HB8 := Lib.hid hb; clear hr hb)))
            go_roundg (gk - 1)
            case measure => have := HIK.out; have := HLT.out; omega
            case rel =>
              have hz4 := HB4.out.size
              exact ⟨i + 1, b, s4, D4, mx, by go_num, by have := HIK.out; have := HLT.out; omega, rfl, rfl, (HS4'.out.below HB8.out).later (by have := HIL.out; omega), ⟨HE4'.out.1, HE4'.out.2.1.trans HNX.out.symm, HE4'.out.2.2⟩, HMB.out, HB4.out.trans (HB8.out.mono hz4)⟩
      · have hj1 : ¬ (i : Int) < (nj : Int) := by omega
        go_wp2_with (first
          | (go_at_call 14; go_loud (have hq := HS4'.out.next; rw [HE4'.out.2.1] at hq; (with_reducible refine hq.mono ?_); clear hq; rintro e w7 ⟨rfl, rfl⟩))
          | (go_at_call 15; go_loud (have hq := HS4'.out.ids; rw [HE4'.out.1] at hq; (with_reducible refine hq.mono ?_); clear hq; rintro e w8 ⟨v8, rfl, hr, _, hb⟩; obtain ⟨a8, c8, hv8, _⟩ := hr.form; replace hv8 : v8 = .slice a8 0 c8 := hv8; subst hv8; have HB8 := Lib.hid hb; clear hr hb)))
        go_roundg (gk - 1)
        case measure => have := HIK.out; have := HLT.out; omega
        case rel =>
          have hz4 := HB4.out.size
          exact ⟨i + 1, b, s4, D4, mx, by go_num, by have := HIK.out; have := HLT.out; omega, rfl, rfl, (HS4'.out.below HB8.out).later (by have := HIL.out; omega), ⟨HE4'.out.1, HE4'.out.2.1.trans HNX.out.symm, HE4'.out.2.2⟩, HMB.out, HB4.out.trans (HB8.out.mono hz4)⟩
    · obtain rfl : K = i := by omega
      have hkk := HK.out
      have i1 : ¬ ((K : Int) < (n : Int) ∧ (K : Int) < 20) := by omega
      rcases hkk.2.2 with h | h
      · subst h
        have i2 : ¬ (K : Int) < (K : Int) := by omega
        clear hik hlt hkk i1
        go_wp2
        go_ret
        exact ⟨rfl, HB.out⟩
      · subst h
        by_cases h2 : (20 : Int) < (n : Int)
        · clear hik hlt hkk i1
          go_wp2
          go_ret
          exact ⟨rfl, HB.out⟩
        · clear hik hlt hkk i1
          go_wp2
          go_ret
          exact ⟨rfl, HB.out⟩
end Go.Proofs.YtcpgbekcbaelpaaGreatDoor
