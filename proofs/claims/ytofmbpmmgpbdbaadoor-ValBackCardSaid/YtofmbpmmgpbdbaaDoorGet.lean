/- The program's get: a value out of bytes. -/
import Derived.Test.YtofmbpmmgpbdbaaDoorRead
namespace Go.Proofs.YtofmbpmmgpbdbaaDoor
open Go.RowKit Go.Maps Wr
set_option linter.unusedVariables false
variable {M : Nat}

theorem InW.chg {w w' : World} {p : Nat} {b : List UInt8} {e : Int} {F : List Nat} (h : InW M w p b e) (hc : Chg F w w') (hp : p ∉ F) (hF : ∀ k ∈ F, M ≤ k) : InW M w' p b e := by
  obtain ⟨v, hz, ao, cap, h1, h2, h3, h4⟩ := h
  refine ⟨v, (hc.block p (lt_of_block hz) hp).trans hz, ao, cap, h1, h2, h3, fun j hj => ?_⟩
  obtain ⟨g, o, e1, e2, e3, e4⟩ := h4 j hj
  exact ⟨g, o, e1, e2, ⟨e3.1, Nat.le_trans e3.2 hc.size⟩, (hc.cell (p := ⟨g, o + j, none⟩) (Nat.lt_of_lt_of_le e3.1 e3.2) (fun hm => by have := hF g hm; omega)).trans e4⟩
theorem InW.lt {w : World} {p : Nat} {b : List UInt8} {x : Int} (h : InW M w p b x) : p < w.heap.size := by
  obtain ⟨v, hz, _⟩ := h; exact lt_of_block hz
abbrev Zk (k : Int) : Obj := .cells #[.int .i64 k, .int .i64 0, .string ⟨#[]⟩, .slice none 0 0] 24 (0, 0)

set_option maxRecDepth 100000 in
set_option maxHeartbeats 1600000 in
theorem get_walk : ∀ (f : Nat) (p : Nat) (b : List UInt8) (d : Int) (w : World), M ≤ w.heap.size → InW M w p b 0 → b.length ≤ 1000000 → (f : Int) + d = 201 → 0 ≤ d → Calls Tryd.prog 45 #[.pointer (some ⟨p, 0, none⟩), .int .i64 d] w (RdEnd (InW M) w p (rv f b)) := by
  intro f
  induction f with
  | zero => 
    intro p b d w hM h hl hd hd0
    obtain rfl : d = 201 := by omega
    have hp := h.lt
    have HN := Lib.hid (fail_any p b 2 (w.alloc Z4) (h.chg ((Chg.refl [] w).alloc Z4) (by simp) (by simp)))
    have hZ1 := heap_alloc_new w Z4
    have Z1 := Lib.hid hZ1
    clear h hZ1
    go_enter Tryd.func45, Tryd.ntmps45
    go_wp2_with (go_at_call 68; refine HN.out.mono ?_; rintro e w5 ⟨rfl, hin, hc⟩; have z5 := (hc.block w.heap.size (lt_of_block Z1.out) (by simp; omega)).trans Z1.out; obtain ⟨y0, y1, y2, y3, y4⟩ := hdr4_cells z5; have HIN := Lib.hid hin; have HC := Lib.hid hc; have Z5 := Lib.hid z5; clear hin hc z5)
    all_goals
      obtain ⟨z1, z2⟩ := four_ret (y0 := .int .i64 0) (y1 := .int .i64 0) (y2 := .string ⟨#[]⟩) (y3 := .slice none 0 0) Z5.out
      generalize ((((World.setCell _ _ _).setCell _ _).setCell _ _).setCell _ _) = wz at z1 z2 ⊢
      obtain ⟨y0, y1, y2, y3, _⟩ := hdr4_cells z1
      refine bodyPost_ret (v := .agg #[.int .i64 0, .int .i64 0, .string ⟨#[]⟩, .slice none 0 0]) (by simp [results, Tryd.results45, go_sem, y0, y1, y2, y3]) rfl ?_
      exact ⟨_, rfl, leaf_is _ _ 0 0 ⟨#[]⟩ (by decide) (by decide) (sz_max _ (by decide)), HIN.out.chg z2 (by simp; omega) (by simp; omega), (((Chg.refl [p] w).alloc Z4).trans HC.out (Within.refl _ _)).trans z2 (fun k hk => by simp at hk ⊢; omega)⟩
  | succ f ih =>
    intro p b d w hM h hl hdp hd0
    have hd2 : d ≤ 200 := by omega
    have hp := h.lt
    have HMW := Lib.hid hM
    have HNf := wNum_fn p b 0 0 6 (w.alloc Z4) (h.chg ((Chg.refl [] w).alloc Z4) (by simp) (by simp)) hl
    have hZ1 : (w.alloc Z4).heap[w.heap.size]? = some Z4 := heap_alloc_new _ _
    obtain ⟨k, b1, x1, hk⟩ : ∃ k b1 x1, rn 0 6 b 0 = (k, b1, x1) := ⟨_, _, _, rfl⟩
    have hkin := rn_in (lo := 0) (hi := 6) b 0 (by omega) (by omega)
    have hb1 := rn_le 0 6 b 0
    have hhd : hd b = hdOf b1 k x1 := by unfold hd; rw [hk]
    rw [hk] at HNf hkin hb1
    obtain ⟨hk0, hk6⟩ := hkin
    simp only at hk0 hk6 hb1
    have HK := Lib.hid HNf
    have Z1 := Lib.hid hZ1
    have HHD := Lib.hid hhd
    clear h hk HNf hZ1 hhd hM
    go_enter Tryd.func45, Tryd.ntmps45
    go_upto_block 0 with (first | (go_at_call 69; refine HK.out.mono ?_; rintro e w5 ⟨rfl, hin, hc⟩; replace hin : InW M w5 p b1 x1 := hin; have HIN := Lib.hid hin; have HC := Lib.hid hc; have S5 := Lib.hid hc.size; clear hin hc))
    obtain ⟨q, hq⟩ : ∃ q, q = w5.heap.size := ⟨_, rfl⟩
    obtain ⟨w6, hw6⟩ : ∃ w6, w6 = w5.alloc (Zk k) := ⟨_, rfl⟩
    have hs6 : w6.heap.size = q + 1 := by rw [hw6, hq]; simp
    have z6 : w6.heap[q]? = some (Zk k) := by rw [hw6, hq]; exact heap_alloc_new _ _
    have hi6 : InW M w6 p b1 x1 := by rw [hw6]; exact HIN.out.chg ((Chg.refl [] w5).alloc _) (by simp) (by simp)
    have x6 : w6.heap[w.heap.size]? = some Z4 := by
      rw [hw6]
      exact (heap_alloc_old _ _ (Nat.lt_of_lt_of_le (lt_of_block Z1.out) S5.out)).trans ((HC.out.block w.heap.size (lt_of_block Z1.out) (by simp; omega)).trans Z1.out)
    have hcw6 : Chg [p] w w6 := by
      rw [hw6]
      exact (((Chg.refl [p] w).alloc Z4).trans HC.out (Within.refl _ _)).alloc _
    have hqw : w.heap.size + 1 ≤ q := by
      have := S5.out
      rw [hq]
      simpa using this
    rw [← hq, ← hw6]
    have HI6 := Lib.hid hi6
    have Z6 := Lib.hid z6
    have X6 := Lib.hid x6
    have S6 := Lib.hid hs6
    have HCW6 := Lib.hid hcw6
    clear hw6 hq HC HIN HK Z1 S5
    obtain ⟨b60, b61, b62, b63, b64⟩ := hdr4_cells z6
    clear z6 hi6 x6 hs6 hcw6
    have HP6 : Hid (p < w6.heap.size) := HI6.out.lt
    have HQ : Hid (w.heap.size + 1 ≤ q) := hqw
    have HPW : Hid (p < w.heap.size) := hp
    go_cut [6] (fun s6 wx => RdHead (InW M) w6 p q (hd b) s6 wx)
    case first =>
      have HC6 : Hid (Chg [p, q] w6 w6) := Chg.refl _ _
      have hc : k = 0 ∨ k = 1 ∨ k = 2 ∨ k = 3 ∨ k = 4 ∨ k = 5 ∨ k = 6 := by omega
      clear hk0 hk6
      rcases hc with rfl | rfl | rfl | rfl | rfl | rfl | rfl
      · obtain ⟨n, r, y, hr⟩ : ∃ n r y, rn (-4611686018427387904) 4611686018427387903 b1 x1 = (n, r, y) := ⟨_, _, _, rfl⟩
        have he : hd b = ⟨0, n, [], 0, r, y⟩ := by rw [HHD.out]; unfold hdOf; rw [if_pos rfl, hr]
        have hA := wNum_fn p b1 x1 (-4611686018427387904) 4611686018427387903 w6 HI6.out (by omega)
        rw [hr] at hA
        have HA := Lib.hid hA
        have HE := Lib.hid he
        clear hr hA he
        go_wp2_with (go_at_call 69; refine HA.out.mono ?_; rintro e w7 ⟨rfl, hin, hc⟩; replace hin : InW M w7 p r y := hin; have IN7 := Lib.hid hin; have C7 := Lib.hid hc; have z7 := (hc.block q (lt_of_block Z6.out) (by simp; omega)).trans Z6.out; obtain ⟨a70, a71, a72, a73, a74⟩ := hdr4_cells z7; have Z7 := Lib.hid z7; clear hin hc z7)
        go_meet
        case rel =>
          rw [HE.out]
          refine ⟨rfl, ?_, ?_, ?_⟩
          · exact (hdr4_set Z7.out).trans rfl
          · exact IN7.out.chg (chg1_set w7 q 1 _) (by simp; omega) (by have := HMW.out; simp; omega)
          · exact (HC6.out.trans C7.out (fun j hj => .inl (by simp at hj ⊢; omega))).trans (chg1_set w7 q 1 _) (fun j hj => .inl (by simp at hj ⊢; omega))
      · obtain ⟨s, r, y, hr⟩ : ∃ s r y, rs 4096 b1 x1 = (s, r, y) := ⟨_, _, _, rfl⟩
        have he : hd b = ⟨1, 0, s, 0, r, y⟩ := by rw [HHD.out]; unfold hdOf; rw [if_neg (by omega), if_pos (by omega), hr]
        have hA := wStr_fn p b1 x1 4096 w6 HI6.out (by omega) (by omega)
        rw [hr] at hA
        have HA := Lib.hid hA
        have HE := Lib.hid he
        clear hr hA he
        go_wp2_with (go_at_call 70; refine HA.out.mono ?_; rintro e w7 ⟨rfl, hin, hc⟩; replace hin : InW M w7 p r y := hin; have IN7 := Lib.hid hin; have C7 := Lib.hid hc; have z7 := (hc.block q (lt_of_block Z6.out) (by simp; omega)).trans Z6.out; obtain ⟨a70, a71, a72, a73, a74⟩ := hdr4_cells z7; have Z7 := Lib.hid z7; clear hin hc z7)
        go_meet
        case rel =>
          rw [HE.out]
          refine ⟨rfl, ?_, ?_, ?_⟩
          · exact (hdr4_set Z7.out).trans rfl
          · exact IN7.out.chg (chg1_set w7 q 2 _) (by simp; omega) (by have := HMW.out; simp; omega)
          · exact (HC6.out.trans C7.out (fun j hj => .inl (by simp at hj ⊢; omega))).trans (chg1_set w7 q 2 _) (fun j hj => .inl (by simp at hj ⊢; omega))
      · obtain ⟨s, r, y, hr⟩ : ∃ s r y, rs 4096 b1 x1 = (s, r, y) := ⟨_, _, _, rfl⟩
        have he : hd b = ⟨2, 0, s, 0, r, y⟩ := by rw [HHD.out]; unfold hdOf; rw [if_neg (by omega), if_pos (by omega), hr]
        have hA := wStr_fn p b1 x1 4096 w6 HI6.out (by omega) (by omega)
        rw [hr] at hA
        have HA := Lib.hid hA
        have HE := Lib.hid he
        clear hr hA he
        go_wp2_with (go_at_call 70; refine HA.out.mono ?_; rintro e w7 ⟨rfl, hin, hc⟩; replace hin : InW M w7 p r y := hin; have IN7 := Lib.hid hin; have C7 := Lib.hid hc; have z7 := (hc.block q (lt_of_block Z6.out) (by simp; omega)).trans Z6.out; obtain ⟨a70, a71, a72, a73, a74⟩ := hdr4_cells z7; have Z7 := Lib.hid z7; clear hin hc z7)
        go_meet
        case rel =>
          rw [HE.out]
          refine ⟨rfl, ?_, ?_, ?_⟩
          · exact (hdr4_set Z7.out).trans rfl
          · exact IN7.out.chg (chg1_set w7 q 2 _) (by simp; omega) (by have := HMW.out; simp; omega)
          · exact (HC6.out.trans C7.out (fun j hj => .inl (by simp at hj ⊢; omega))).trans (chg1_set w7 q 2 _) (fun j hj => .inl (by simp at hj ⊢; omega))
      · obtain ⟨n, r, y, hr⟩ : ∃ n r y, rn 0 255 b1 x1 = (n, r, y) := ⟨_, _, _, rfl⟩
        obtain ⟨m, r2, y2, hr2⟩ : ∃ m r2 y2, rn 0 8 r y = (m, r2, y2) := ⟨_, _, _, rfl⟩
        have he : hd b = ⟨3, n, [], m, r2, y2⟩ := by rw [HHD.out]; unfold hdOf; rw [if_neg (by omega), if_neg (by omega), if_pos rfl, hr]; simp only; rw [hr2]
        have hrl := rn_le 0 255 b1 x1
        rw [hr] at hrl
        simp only at hrl
        have hA := wNum_fn p b1 x1 0 255 w6 HI6.out (by omega)
        rw [hr] at hA
        have hA2 : ∀ W, InW M W p r y → Calls Tryd.prog 69 #[.pointer (some ⟨p, 0, none⟩), .int .i64 0, .int .i64 8] W (NumFn (InW M) W p (m, r2, y2)) := fun W hW => by
          have := wNum_fn p r y 0 8 W hW (by omega)
          rwa [hr2] at this
        have HA := Lib.hid hA
        have HA2 := Lib.hid hA2
        have HE := Lib.hid he
        clear hr hA hA2 he hr2
        go_wp2_with (first
          | (go_at_call 69; refine HA.out.mono ?_; rintro e w7 ⟨rfl, hin, hc⟩; replace hin : InW M w7 p r y := hin; have IN7 := Lib.hid hin; have C7 := Lib.hid hc; have z7 := (hc.block q (lt_of_block Z6.out) (by simp; omega)).trans Z6.out; obtain ⟨a70, a71, a72, a73, a74⟩ := hdr4_cells z7; have Z7 := Lib.hid z7; clear hin hc z7; clear HA; have Z8 : Hid ((w7.setCell ⟨q, 1, none⟩ (.int .i64 n)).heap[q]? = some (.cells #[.int .i64 3, .int .i64 n, .string ⟨#[]⟩, .slice none 0 0] 24 (0, 0))) := (hdr4_set Z7.out).trans rfl; have hI8 : InW M (w7.setCell ⟨q, 1, none⟩ (.int .i64 n)) p r y := IN7.out.chg (chg1_set w7 q 1 _) (by simp; omega) (by have := HMW.out; simp; omega); have I8 := Lib.hid hI8; clear hI8)
          | (go_at_call 69; refine (HA2.out _ I8.out).mono ?_; rintro e w9 ⟨rfl, hin, hc⟩; replace hin : InW M w9 p r2 y2 := hin; have IN9 := Lib.hid hin; have C9 := Lib.hid hc; have z9 := (hc.block q (lt_of_block Z8.out) (by simp; omega)).trans Z8.out; obtain ⟨a90, a91, a92, a93, a94⟩ := hdr4_cells z9; have Z9 := Lib.hid z9; clear hin hc z9))
        go_meet
        case rel =>
          rw [HE.out]
          refine ⟨rfl, Z9.out, IN9.out, ?_⟩
          exact ((HC6.out.trans C7.out (fun j hj => .inl (by simp at hj ⊢; omega))).trans (chg1_set w7 q 1 _) (fun j hj => .inl (by simp at hj ⊢; omega))).trans C9.out (fun j hj => .inl (by simp at hj ⊢; omega))
      · obtain ⟨n, r, y, hr⟩ : ∃ n r y, rn (2) 8 b1 x1 = (n, r, y) := ⟨_, _, _, rfl⟩
        have he : hd b = ⟨4, 0, [], n, r, y⟩ := by rw [HHD.out]; unfold hdOf; rw [if_neg (by omega)]; rw [if_neg (by omega)]; rw [if_neg (by omega)]; rw [if_pos rfl, hr]
        have hA := wNum_fn p b1 x1 (2) 8 w6 HI6.out (by omega)
        rw [hr] at hA
        have HA := Lib.hid hA
        have HE := Lib.hid he
        clear hr hA he
        go_wp2_with (go_at_call 69; refine HA.out.mono ?_; rintro e w7 ⟨rfl, hin, hc⟩; replace hin : InW M w7 p r y := hin; have IN7 := Lib.hid hin; have C7 := Lib.hid hc; have z7 := (hc.block q (lt_of_block Z6.out) (by simp; omega)).trans Z6.out; obtain ⟨a70, a71, a72, a73, a74⟩ := hdr4_cells z7; have Z7 := Lib.hid z7; clear hin hc z7)
        go_meet
        case rel =>
          rw [HE.out]
          refine ⟨rfl, ?_, ?_, ?_⟩
          · exact Z7.out
          · exact IN7.out
          · exact HC6.out.trans C7.out (fun j hj => .inl (by simp at hj ⊢; omega))
      · obtain ⟨n, r, y, hr⟩ : ∃ n r y, rn (1) 1099511627776 b1 x1 = (n, r, y) := ⟨_, _, _, rfl⟩
        have he : hd b = ⟨5, n, [], 0, r, y⟩ := by rw [HHD.out]; unfold hdOf; rw [if_neg (by omega)]; rw [if_neg (by omega)]; rw [if_neg (by omega)]; rw [if_neg (by omega)]; rw [if_pos rfl, hr]
        have hA := wNum_fn p b1 x1 (1) 1099511627776 w6 HI6.out (by omega)
        rw [hr] at hA
        have HA := Lib.hid hA
        have HE := Lib.hid he
        clear hr hA he
        go_wp2_with (go_at_call 69; refine HA.out.mono ?_; rintro e w7 ⟨rfl, hin, hc⟩; replace hin : InW M w7 p r y := hin; have IN7 := Lib.hid hin; have C7 := Lib.hid hc; have z7 := (hc.block q (lt_of_block Z6.out) (by simp; omega)).trans Z6.out; obtain ⟨a70, a71, a72, a73, a74⟩ := hdr4_cells z7; have Z7 := Lib.hid z7; clear hin hc z7)
        go_meet
        case rel =>
          rw [HE.out]
          refine ⟨rfl, ?_, ?_, ?_⟩
          · exact (hdr4_set Z7.out).trans rfl
          · exact IN7.out.chg (chg1_set w7 q 1 _) (by simp; omega) (by have := HMW.out; simp; omega)
          · exact (HC6.out.trans C7.out (fun j hj => .inl (by simp at hj ⊢; omega))).trans (chg1_set w7 q 1 _) (fun j hj => .inl (by simp at hj ⊢; omega))
      · have he : hd b = ⟨6, 0, [], 0, b1, x1⟩ := by rw [HHD.out]; unfold hdOf; rw [if_neg (by omega), if_neg (by omega), if_neg (by omega), if_neg (by omega), if_neg (by omega)]
        have HE := Lib.hid he
        clear he
        go_wp2
        go_meet
        case rel =>
          rw [HE.out]
          exact ⟨rfl, Z6.out, HI6.out, HC6.out⟩
    case rest =>
      obtain ⟨rfl, zq, hix, hcx⟩ := hcut
      have hrv : rv (f + 1) b = (.node (hd b).k (hd b).n (bytes (hd b).s) (rvs (rv f) (hd b).m.toNat (hd b).r (hd b).x).1, (rvs (rv f) (hd b).m.toNat (hd b).r (hd b).x).2) := by rw [rv]
      obtain ⟨hm0, hm8⟩ := hd_m b
      have hrl := hd_le b
      have hwf := hd_wf b
      obtain ⟨h, hh⟩ : ∃ h, hd b = h := ⟨_, rfl⟩
      rw [hh] at hrv zq hix hm0 hm8 hrl hwf
      rw [hh]
      clear hh HHD
      obtain ⟨k', n', s', m', r', x'⟩ := h
      simp only at hrv zq hix hm0 hm8 hrl hwf ⊢
      obtain ⟨m, rfl⟩ : ∃ m : Nat, m' = (m : Int) := ⟨m'.toNat, by omega⟩
      rw [Int.toNat_natCast] at hrv
      have HRV := Lib.hid hrv
      have HWF := Lib.hid hwf
      have HL : Hid (RdLoop (InW M) f w6 p q k' n' s' m r' x' m (.int .i64 0) wc) := ⟨0, [], .slice none 0 0, r', x', rfl, rfl, by omega, by omega, zq, KRow.nil _ _, hix, by simp, hcx⟩
      clear hrv zq hix hcx hwf HI6 Z6 b60 b61 b62 b63 b64
      go_wp2
      go_loopg [45] m (fun gk s45 wr => RdLoop (InW M) f w6 p q k' n' s' m r' x' gk s45 wr)
      case atStart => exact HL.out
      case round =>
        clear HL
        obtain ⟨j, l, v, b', y, rfl, hll, hjm, hbl, zq, hkr, hir, hrvs, hcr⟩ := hrel
        have HKR := Lib.hid hkr
        have HIR := Lib.hid hir
        have HRVS := Lib.hid hrvs
        have HCR := Lib.hid hcr
        have ZQ := Lib.hid zq
        have HLL := Lib.hid hll
        obtain ⟨a0, a1, a2, a3, a4⟩ := hdr4_cells zq
        have HM8 : Hid (m ≤ 8) := by show m ≤ 8; omega
        have HMR : Hid (M ≤ wr.heap.size) := Nat.le_trans (Nat.le_trans HMW.out HCW6.out.size) hcr.size
        clear hkr hir hrvs hcr zq hll
        have g0 : (0 : Int) ≤ (j : Int) := by omega
        by_cases hlt : j < m
        · have g1 : (j : Int) < (m : Int) := by omega
          by_cases hy : y = 0
          · subst hy
            have HI := Lib.hid (fun W (hMW : M ≤ W.heap.size) (hW : InW M W p b' 0) => ih p b' (d + 1) W hMW hW hbl (by omega) (by omega))
            have hd3 : d + 1 ≤ 201 := by omega
            have hbl' := rv_le f b'
            obtain ⟨t, b2, y2, hrvf⟩ : ∃ t b2 y2, rv f b' = (t, b2, y2) := ⟨_, _, _, rfl⟩
            rw [hrvf] at HI hbl'
            simp only at hbl'
            have HRF := Lib.hid hrvf
            clear hrvf
            have hw1 : IntKind.i64.wrap (d + 1) = d + 1 := by rw [IntKind.wrap_i64]; omega
            go_wp2_with (go_at_call 71; refine (err_any p b' 0 _ HIR.out).mono ?_; rintro e w5 ⟨rfl, rfl⟩)
            go_region_law (first
              | (refine step_callw (w := wr.drew) (by rfl) 45 #[.pointer (some ⟨p, 0, none⟩), .int .i64 (d + 1)] ?_ (HI.out _ HMR.out HIR.out) ?_; go_simp; rintro e w5 ⟨v5, rfl, hv5, hi5, hc5⟩; replace hc5 : Chg [p] wr w5 := ((Chg.refl [p] wr).drewN 1).trans hc5 (Within.refl _ _); replace hv5 : ValIs w5 (fun b => wr.heap.size ≤ b ∧ b < w5.heap.size) t v5 := hv5; replace hi5 : InW M w5 p b2 y2 := hi5; obtain ⟨ao5, cap5, rfl⟩ := hv5.form; refine ⟨_, rfl, ?_⟩; have zq5 := (hc5.block q (lt_of_block ZQ.out) (by have := HPW.out; have := HQ.out; simp; omega)).trans ZQ.out; obtain ⟨n0, n1, n2, n3, n4⟩ := hdr4_cells zq5; have n9 := cell3_later zq5; have ZQ5 := Lib.hid zq5; have HV5 := Lib.hid hv5; have HI5 := Lib.hid hi5; have HC5 := Lib.hid hc5; obtain ⟨ps, k1, k2, k3, k4⟩ := HKR.out.chg hc5 (fun k hk => by have := HP6.out; simp at hk ⊢; omega); have K1 := Lib.hid k1; have K2 := Lib.hid k2; have K3 := Lib.hid k3; have K4 := Lib.hid k4; clear hv5 hi5 hc5 k1 k2 k3 k4 zq5; unfold vval)
              | (refine step_appz (w := w5.alloc _) (by rfl) _ _ rfl (v := v) (n := l.length) (xs := kcells l ps) (news := kcell t (ao5, cap5)) (by rfl) (K2.out.alloc _) (ad := ⟨w5.heap.size, 0, none⟩) (c := 1) (by rfl) rfl (cell_four_new _ _ _ _ _ _) (kcell_one _ _) (by have := HLL.out; have := HM8.out; omega) ?_; intro g cap1 w7 hr6 hg6 hl6; have R6 := Lib.hid hr6; have G6 := Lib.hid hg6; have L6 := Lib.hid hl6; clear hr6 hg6 hl6; have zq6 := (app_block G6.out (lt_of_block ZQ5.out) (fun e => by have := K3.out _ e; have := S6.out; omega)).trans ZQ5.out; obtain ⟨m0, m1, m2, m3, m4⟩ := hdr4_cells zq6; have ZQ6 := Lib.hid zq6; clear zq6))
            all_goals go_wp2
            all_goals
              obtain ⟨z1, z2, z3⟩ := rd_round (W := w6) HP6.out (by have := S6.out; omega) HCR.out HKR.out HC5.out HV5.out K1.out K3.out K4.out K2.out R6.out G6.out L6.out (.slice (some ⟨g, 0, none⟩) (l.length + 1) cap1)
              go_roundg (gk - 1)
              case measure => omega
              case rel =>
                refine ⟨j + 1, l ++ [t], _, b2, y2, by go_num, by simp [HLL.out], by omega, by omega, (hdr4_set ZQ6.out).trans rfl, z1, HI5.out.chg z3 (fun hk => by simp at hk; rcases hk with hk | hk; exact absurd (K3.out _ hk) (by have := HP6.out; omega); exact absurd hk (by have := HPW.out; have := HQ.out; omega)) (fun k hk => by simp at hk; have := HCW6.out.size; have := HMW.out; have := HQ.out; rcases hk with hk | hk; exact Nat.le_trans (by omega) (K3.out _ hk); omega), ?_, z2⟩
                obtain ⟨g', rfl⟩ : ∃ g', gk = g' + 1 := ⟨gk - 1, by omega⟩
                rw [HRVS.out, rvs, if_pos rfl, HRF.out]
                simp
          · have hq : (y == 0) = false := by simpa using hy
            have x0 := (HCR.out.block w.heap.size (lt_of_block X6.out) (by have := HPW.out; have := HQ.out; simp; omega)).trans X6.out
            obtain ⟨e0, e1, e2, e3, e4⟩ := hdr4_cells x0
            have X0 := Lib.hid x0
            clear x0
            have HX : Hid (rvs (rv f) m r' x' = (l, b', y)) := by
              show _ = _
              rw [HRVS.out, rvs_past hy]
              simp
            obtain ⟨ao, cap, hvv, _⟩ := HKR.out.kids
            subst hvv
            go_wp2_with (go_at_call 71; refine (err_any p b' y _ HIR.out).mono ?_; rintro e w5 ⟨rfl, rfl⟩)
            all_goals
              obtain ⟨z1, z2⟩ := four_ret (y0 := .int .i64 k') (y1 := .int .i64 n') (y2 := .string (bytes s')) (y3 := .slice ao l.length cap) X0.out
              generalize ((((World.setCell _ _ _).setCell _ _).setCell _ _).setCell _ _) = wz at z1 z2 ⊢
              obtain ⟨y0, y1, y2, y3, _⟩ := hdr4_cells z1
              refine bodyPost_ret (v := .agg #[.int .i64 k', .int .i64 n', .string (bytes s'), .slice ao l.length cap]) (by simp [results, Tryd.results45, go_sem, y0, y1, y2, y3]) rfl ?_
              rw [HRV.out, HX.out]
              exact rd_end (W := w6) (H := w.heap.size) (q := q) (by have := S6.out; have := HQ.out; omega) (Nat.le_refl _) (by have := S6.out; have := HQ.out; omega) (by have := HQ.out; omega) HCW6.out HCR.out z2 HKR.out (HIR.out.chg z2 (by have := HPW.out; simp; omega) (by have := HMW.out; simp; omega)) (by have := HWF.out; omega)
        · obtain ⟨rfl, rfl⟩ : gk = 0 ∧ j = m := ⟨by omega, by omega⟩
          have x0 := (HCR.out.block w.heap.size (lt_of_block X6.out) (by have := HPW.out; have := HQ.out; simp; omega)).trans X6.out
          obtain ⟨e0, e1, e2, e3, e4⟩ := hdr4_cells x0
          have X0 := Lib.hid x0
          clear x0
          have HX : Hid (rvs (rv f) j r' x' = (l, b', y)) := by
            show _ = _
            rw [HRVS.out, rvs]
            simp
          obtain ⟨ao, cap, hvv, _⟩ := HKR.out.kids
          subst hvv
          go_wp2_with (go_at_call 71; refine (err_any p b' y _ HIR.out).mono ?_; rintro e w5 ⟨rfl, rfl⟩)
          all_goals
            obtain ⟨z1, z2⟩ := four_ret (y0 := .int .i64 k') (y1 := .int .i64 n') (y2 := .string (bytes s')) (y3 := .slice ao l.length cap) X0.out
            generalize ((((World.setCell _ _ _).setCell _ _).setCell _ _).setCell _ _) = wz at z1 z2 ⊢
            obtain ⟨y0, y1, y2, y3, _⟩ := hdr4_cells z1
            refine bodyPost_ret (v := .agg #[.int .i64 k', .int .i64 n', .string (bytes s'), .slice ao l.length cap]) (by simp [results, Tryd.results45, go_sem, y0, y1, y2, y3]) rfl ?_
            rw [HRV.out, HX.out]
            exact rd_end (W := w6) (H := w.heap.size) (q := q) (by have := S6.out; have := HQ.out; omega) (Nat.le_refl _) (by have := S6.out; have := HQ.out; omega) (by have := HQ.out; omega) HCW6.out HCR.out z2 HKR.out (HIR.out.chg z2 (by have := HPW.out; simp; omega) (by have := HMW.out; simp; omega)) (by have := HWF.out; omega)
end Go.Proofs.YtofmbpmmgpbdbaaDoor
