/- HeapDeep: the walk. -/
import Derived.Test.YtlbiapgikkjooaaDeep
import Derived.Deep.DeepCutAuto
import Derived.IntWalk
namespace Go.Proofs.Ytlbiapgikkjooaa
open Go.RowKit Go.Maps Hp

def clip (s : ByteArray) : ByteArray := s.extract 0 (min s.size 100)
theorem clip_size (s : ByteArray) : (clip s).size ≤ 100 := by unfold clip; rw [ByteArray.size_extract]; omega
def mkItem (i : Nat) (x : Int) (s : ByteArray) : TItem := ⟨10 + i, wr x, (clip s).data.toList⟩
theorem mkItem_n (i : Nat) (x : Int) (s : ByteArray) : 2 * (mkItem i x s).n + 1 = 2 * wr x + 1 := rfl
def itemOf (nums : List Int) (texts : List ByteArray) (j : Nat) : TItem := ⟨10 + j, wr (nums.getD j 0), (clip (texts.getD j ⟨#[]⟩)).data.toList⟩
def items (nums : List Int) (texts : List ByteArray) (i : Nat) : List TItem := (List.range i).map (itemOf nums texts)
theorem items_succ (nums : List Int) (texts : List ByteArray) (i : Nat) : items nums texts (i + 1) = items nums texts i ++ [itemOf nums texts i] := by simp [items, List.range_succ]
theorem items_length (nums : List Int) (texts : List ByteArray) (i : Nat) : (items nums texts i).length = i := by simp [items]
theorem items_get (nums : List Int) (texts : List ByteArray) {n j : Nat} (h : j < n) : (items nums texts n)[j]? = some (itemOf nums texts j) := by simp [items, h]
theorem weight_items (nums : List Int) (texts : List ByteArray) (i : Nat) : weight (items nums texts i) ≤ 17 * i := by
  induction i with
  | zero => simp [items, weight]
  | succ i ih =>
    have h2 : (itemOf nums texts i).size ≤ 17 := by
      unfold TItem.size itemOf
      have := clip_size (texts.getD i ⟨#[]⟩)
      simp only [Array.length_toList]
      show 4 + ((clip _).size + 7) / 8 ≤ 17
      omega
    unfold weight at ih ⊢
    rw [items_succ, List.map_append, List.sum_append]
    simp
    omega

theorem imm_small (n : Nat) (h : n < 1000000000) (w : World) : Calls Try.prog 9 #[.int .i64 (n : Int)] w fun e w' => e = .returned (.int .i64 (2 * (n : Int) + 1)) ∧ w = w' := by
  have := imm_any n w
  rwa [wr_of_in _ (by omega) (by omega)] at this
theorem treeG_alloc {N : Nat} {w0 w : World} {p t : Nat} {l : List TItem} {ds bs : List Nat} (h : AtTreeG N w0 p l t ds bs w) (o : Obj) : AtTreeG N w0 p l t ds bs (w.alloc o) := by
  obtain ⟨A, φ, g, n, h1, h2, h3, h4⟩ := h
  exact ⟨A, φ, g, n, h1, h2, h3, h4.later ((Below.refl _ _).alloc (Nat.le_refl _) _)⟩

/-- What is known of the two slices. -/
structure DeepArgs (W : World) (nums : List Int) (texts : List ByteArray) (an at_ : Option Addr) : Prop where
  num : ∀ j, j < nums.length → ∃ b off, an = some ⟨b, off, none⟩ ∧ b < W.heap.size ∧ W.cell? ⟨b, off + j, none⟩ = some (.int .i64 (nums.getD j 0))
  txt : ∀ j, j < texts.length → ∃ b off, at_ = some ⟨b, off, none⟩ ∧ b < W.heap.size ∧ W.cell? ⟨b, off + j, none⟩ = some (.string (texts.getD j ⟨#[]⟩))
  len : nums.length ≤ 9223372036854775807 ∧ texts.length ≤ 9223372036854775807
  siz : ∀ j, j < texts.length → (texts.getD j ⟨#[]⟩).size ≤ 9223372036854775807

def zeros (n : Nat) : ByteArray := ⟨(List.replicate n (0 : UInt8)).toArray⟩
theorem zeros_size (n : Nat) : (zeros n).size = n := by simp [zeros, ByteArray.size]
theorem run_string_made (n : Nat) (hn : n ≤ 1000000000) (w : World) : (convert 50 9 (.slice (some ⟨w.heap.size, 0, none⟩) n n)).run Try.prog (w.alloc (.cells (madeCells #[.int .u8 0] n) 5)) = .ok (.string (zeros n)) (w.alloc (.cells (madeCells #[.int .u8 0] n) 5)) := by
  have h := run_convert_bytes_back (P := Try.prog) (w.alloc (.cells (madeCells #[.int .u8 0] n) 5)) 50 9 5 ⟨w.heap.size, 0, none⟩ n (List.replicate n (0 : UInt8)) Try.underlying50 Try.underlying5 Try.underlying9 (fun j hj => by
    have := (row_made_bytes n hn w).cellAt j (by simpa using hj)
    rw [show (Addr.add ⟨w.heap.size, 0, none⟩ j) = ⟨w.heap.size, j, none⟩ by unfold Addr.add; split <;> simp_all, this]
    rw [List.length_replicate] at hj
    rw [List.getElem?_replicate, if_pos hj, List.getElem_replicate]; rfl)
  rw [List.length_replicate] at h
  exact h
def ItemEnd (N : Nat) (w0 : World) (p : Nat) (l : List TItem) (t : Nat) (ds bs : List Nat) (φ : Nat → Nat) (it : TItem) (d b : Nat) (v : Value) (e : Ending) (w : World) : Prop := e = .returned v ∧ AtItem N w0 p l t ds bs φ it d b w
section
variable {N : Nat} {w0 w : World} {p t : Nat} {l : List TItem} {ds bs : List Nat} {φ : Nat → Nat} {it : TItem} {d b : Nat}
theorem AtItem.quiet (h : AtItem N w0 p l t ds bs φ it d b w) {f : FuncId} {args : Array Value} {v : Value} {P : Program} (hc : Calls P f args w fun e w' => e = .returned v ∧ ∃ n, w' = w.drewN n) : Calls P f args w (ItemEnd N w0 p l t ds bs φ it d b v) :=
  hc.mono fun _ _ ⟨he, n, hw⟩ => ⟨he, hw ▸ h.drewN n⟩
theorem AtItem.stays (h : AtItem N w0 p l t ds bs φ it d b w) {f : FuncId} {args : Array Value} {v : Value} {P : Program} (hc : Calls P f args w fun e w' => e = .returned v ∧ Below w.heap.size w w') : Calls P f args w (ItemEnd N w0 p l t ds bs φ it d b v) :=
  hc.mono fun _ _ ⟨he, hw⟩ => ⟨he, h.later hw⟩
end
def GarbLoop (N : Nat) (w0 : World) (p : Nat) (l : List TItem) (t : Nat) (ds bs : List Nat) (R k : Nat) (s : Value) (w : World) : Prop :=
  ∃ i φ, s = .int .i64 (i : Nat) ∧ i + k = R ∧ AtTree N w0 p l t ds bs [] φ w
def ReadLoop (N : Nat) (w0 : World) (p : Nat) (l : List TItem) (t : Nat) (ds bs : List Nat) (φ : Nat → Nat) (n k : Nat) (s : Value) (w : World) : Prop :=
  ∃ i : Nat, s = .int .i64 (i : Nat) ∧ i + k = n ∧ AtTree N w0 p l t ds bs [] φ w
def BuildLoop (N : Nat) (w0 : World) (p : Nat) (nums : List Int) (texts : List ByteArray) (n k : Nat) (s : Value) (w : World) : Prop :=
  ∃ i ds bs φ, s = .int .i64 (i : Nat) ∧ i + k = n ∧ AtBuild N w0 p (items nums texts i) ds bs [] φ w

set_option maxRecDepth 100000 in
set_option maxHeartbeats 6400000 in
theorem deep_walk (nums : List Int) (texts : List ByteArray) (r : Int) (w : World) (an at_ : Option Addr) (cn ct : Nat) (hA : DeepArgs w nums texts an at_) (hcn : nums.length ≤ cn) (hct : texts.length ≤ ct) (hcn2 : cn ≤ maxLen) (hct2 : ct ≤ maxLen) :
    Calls Try.prog 7 #[.slice an nums.length cn, .slice at_ texts.length ct, .int .i64 r] w fun e w' => e = .returned (.bool true) ∧ Below w.heap.size w w' := by
  unfold maxLen at hcn2 hct2
  have HA := Lib.hid hA
  obtain ⟨m1, hm1, hm1'⟩ : ∃ m1 : Nat, m1 = min nums.length 12 ∧ m1 ≤ nums.length := ⟨_, rfl, by omega⟩
  obtain ⟨m2, hm2, hm2'⟩ : ∃ m1 : Nat, m1 = min texts.length 12 ∧ m1 ≤ texts.length := ⟨_, rfl, by omega⟩
  clear hA
  go_enter Try.func7, Try.ntmps7
  go_wp2_with
    (first
     | ((go_at_call 14; refine (mine_new _ 3000 (by omega) rfl).mono ?_; rintro e w1 ⟨p, rfl, M⟩; have M1 := Lib.hid M; clear M))
     | ((go_at_call 10; refine (heaps_any _).mono ?_; rintro e w2 ⟨rfl, B⟩; have M2 := Lib.hid (M1.out.later B); clear B M1)))
  go_quiet (fail)
  have e1 : (if (12 : Int) < (nums.length : Int) then (12 : Int) else (nums.length : Int)).toNat = m1 := by split <;> omega
  have e2 : (if (12 : Int) < (texts.length : Int) then (12 : Int) else (texts.length : Int)).toNat = m2 := by split <;> omega
  rw [e1, e2]
  obtain ⟨n, e3, hn1, hn2⟩ : ∃ n : Nat, (n = m1 ∨ n = m2) ∧ n ≤ m1 ∧ n ≤ m2 := ⟨min m1 m2, by omega, by omega, by omega⟩
  have hm3 : m1 ≤ 12 := by omega
  clear e1 e2 hm1 hm2
  generalize hW : w2.drewN _ = w3
  have HB : Hid (BuildLoop w.heap.size w p nums texts n n (.int .i64 0) w3) := ⟨0, [], [], _, rfl, by omega, _, build_start 3000, by rw [← hW]; exact M2.out.drewN _⟩
  clear M2 hW
  go_upto_region 5 with fail
  go_cut [9] (fun s9 wc => s9 = .int .i64 n ∧ wc = w3)
  case first =>
    go_wp2
    all_goals (go_meet; refine ⟨congrArg (Value.int .i64) ?_, rfl⟩; omega)
  obtain ⟨rfl, rfl⟩ := hcut
  clear e3
  go_wp2
  go_loopg [10] n (fun k s wb => BuildLoop w.heap.size w p nums texts n k s wb)
  case atStart => exact HB.out
  case round =>
    clear HB
    obtain ⟨i, ds, bs, φ, rfl, hik, hB⟩ := hrel
    have HB := Lib.hid hB
    clear hB
    have hlen := Lib.hid (items_length nums texts i)
    have hwt := Lib.hid (weight_items nums texts i)
    by_cases hlt : i < n
    · obtain ⟨bn, on, rfl, hbn, hcn0⟩ := HA.out.num i (by omega)
      obtain ⟨bt, ot, rfl, hbt, hct0⟩ := HA.out.txt i (by omega)
      have hsz := HA.out.siz i (by omega)
      have hgs : Hid (itemOf nums texts i = mkItem i (nums.getD i 0) (texts.getD i ⟨#[]⟩)) := rfl
      have hxs : Hid (items nums texts (i + 1) = items nums texts i ++ [itemOf nums texts i]) := items_succ nums texts i
      have cn := (HB.out.below.cell (p := ⟨bn, on + i, none⟩) hbn).trans hcn0
      have CT : Hid (∀ W, Below w.heap.size w W → W.cell? ⟨bt, ot + i, none⟩ = some (.string (texts.getD i ⟨#[]⟩))) := fun W hW => (hW.cell (p := ⟨bt, ot + i, none⟩) hbt).trans hct0
      generalize nums.getD i 0 = x at cn hgs
      generalize texts.getD i ⟨#[]⟩ = s at CT hgs hsz
      have hb1 : (i : Int) < (m1 : Int) := by omega
      have hb2 : (i : Int) < (m2 : Int) := by omega
      have hb3 : (i : Int) < 12 := by omega
      clear hcn0 hct0
      have hw10 : IntKind.i64.wrap (10 + (i : Int)) = 10 + (i : Int) := IntWalk.i64_in _ (by omega)
      by_cases h100 : (100 : Int) < (s.size : Int)
      · have hcl : s.extract 0 100 = clip s := by unfold clip; congr 1; omega
        have hle : (100 : Int) ≤ (s.size : Int) := by omega
        go_wp2_with
          (first
           | ((go_at_call 9; refine (imm_any _ _).mono ?_; rintro e w' ⟨rfl, rfl⟩))
           | ((go_at_call 15; refine (build_push HB.out (by rw [hlen.out]; omega) x rfl).mono ?_; rintro e w4 ⟨rfl, M⟩; have M4 := Lib.hid M; have k4 := CT.out w4 M4.out.below; clear M HB)))
        go_region_held3 (fun w' => w'.cell? ⟨bt, ot + i, none⟩ = some (.string s)) (first | exact k4 | go_keep)
          ((first
            | ((go_at_call 26; refine (build_raw (M4.out.drewN 1) (by rw [hlen.out]; omega) (by have := hwt.out; omega) (clip s) (clip_size s)).mono ?_; rintro e w5 ⟨rfl, M⟩; have M5 := Lib.hid M; have k5 := CT.out w5 M5.out.below; clear M))
            | ((go_at_call 16; refine (build_make M5.out (by rw [hlen.out]; omega) (by have := hwt.out; omega) (by simpa using clip_size s) (k := 10 + i) (K := 10 + (i : Int)) (by omega) (by omega)).mono ?_; rintro e w6 ⟨rfl, ds6, bs6, φ6, M⟩; have M6 := Lib.hid M; have k6 := CT.out w6 M6.out.below; clear M))))
        go_wp2
        go_roundg (gk - 1)
        case measure => omega
        case rel => exact ⟨i + 1, ds6, bs6, φ6, by go_num, by omega, by rw [hxs.out, hgs.out]; exact M6.out⟩
      · have hcl : Hid (clip s = s) := by unfold clip; rw [show min s.size 100 = s.size by omega]; exact ByteArray.extract_zero_size ..
        have hsz2 : s.size ≤ 100 := by omega
        have hB2 : (s.size : Int) ≤ 100 := by omega
        have hB4 : (if (100 : Int) < (s.size : Int) then (100 : Int) else (s.size : Int)) = (s.size : Int) := by rw [if_neg h100]
        have hsz3 : (0 : Int) ≤ (s.size : Int) := by omega
        go_wp2_with
          (first
           | ((go_at_call 9; refine (imm_any _ _).mono ?_; rintro e w' ⟨rfl, rfl⟩))
           | ((go_at_call 15; refine (build_push HB.out (by rw [hlen.out]; omega) x rfl).mono ?_; rintro e w4 ⟨rfl, M⟩; have M4 := Lib.hid M; have k4 := CT.out w4 M4.out.below; clear M HB)))
        go_region_held3 (fun w' => w'.cell? ⟨bt, ot + i, none⟩ = some (.string s)) (first | exact k4 | go_keep)
          ((first
            | ((go_at_call 26; refine (build_raw (M4.out.drewN 1) (by rw [hlen.out]; omega) (by have := hwt.out; omega) s hsz2).mono ?_; rintro e w5 ⟨rfl, M⟩; have M5 := Lib.hid M; have k5 := CT.out w5 M5.out.below; clear M))
            | ((go_at_call 16; refine (build_make M5.out (by rw [hlen.out]; omega) (by have := hwt.out; omega) (by simpa using hsz2) (k := 10 + i) (K := 10 + (i : Int)) (by omega) (by omega)).mono ?_; rintro e w6 ⟨rfl, ds6, bs6, φ6, M⟩; have M6 := Lib.hid M; have k6 := CT.out w6 M6.out.below; clear M))))
        go_wp2
        go_roundg (gk - 1)
        case measure => omega
        case rel => exact ⟨i + 1, ds6, bs6, φ6, by go_num, by omega, by rw [hxs.out, hgs.out]; unfold mkItem; rw [hcl.out]; exact M6.out⟩
    · obtain rfl : i = n := by omega
      have htl : Hid (treeLive (items nums texts i) ≤ 1000) := by show treeLive _ ≤ _; unfold treeLive; rw [hlen.out]; have := hwt.out; omega
      obtain ⟨R, hR, hR1⟩ : ∃ C : Nat, wrap64 ((IntKind.u64.wrap r).tmod 60) = (C : Int) ∧ C < 60 := by
        have e1 : IntKind.u64.wrap r = r % 18446744073709551616 := rfl
        have h0 : 0 ≤ IntKind.u64.wrap r := by omega
        have e2 := Int.tmod_eq_emod_of_nonneg (b := 60) h0
        refine ⟨(IntKind.u64.wrap r % 60).toNat, ?_, by omega⟩
        rw [e2]; unfold wrap64; omega
      obtain ⟨L, hL⟩ : ∃ L : Nat, L = treeLive (items nums texts i) := ⟨_, rfl⟩
      have HL := Lib.hid hL
      clear hL
      have hlen2 : i ≤ 12 := by omega
      go_wp2_with
        (first
         | ((go_at_call 16; refine (build_tree HB.out (by rw [hlen.out]; omega) (by have := hwt.out; omega) (by rw [hlen.out])).mono ?_; rintro e w4 ⟨rfl, t, ds4, bs4, φ4, M⟩; have M4 := Lib.hid M; clear M HB))
         | ((go_at_call 18; refine (tree_live M4.out (v := L) (by rw [HL.out])).mono ?_; rintro e w5 ⟨rfl, φ5, M⟩; have M5 := Lib.hid M; clear M M4)))
      have HG : Hid (GarbLoop w.heap.size w p (items nums texts i) t ds4 bs4 R R (.int .i64 0) w5) := ⟨0, φ5, rfl, by omega, M5.out⟩
      clear M5
      go_loopg [12] R (fun k s wb => GarbLoop w.heap.size w p (items nums texts i) t ds4 bs4 R k s wb)
      case atStart => exact HG.out
      case round =>
        clear HG
        obtain ⟨j, φ, rfl, hjk, hB⟩ := hrel
        have HB := Lib.hid hB
        clear hB
        by_cases hlt : j < R
        · have hj2 : (j : Int) < 60 := by omega
          have hmk : ∀ W, (Instr.makeSlice 50 (.int .i64 (7 * (j : Int))) (.int .i64 (7 * (j : Int)))).run Try.prog W = .ok (.slice (some ⟨W.heap.size, 0, none⟩) (7 * j) (7 * j)) (W.alloc (.cells (madeCells #[.int .u8 0] (7 * j)) 5)) := fun W => by
            have := run_make_bytes (7 * j) (by omega) W
            rwa [show ((7 * j : Nat) : Int) = 7 * (j : Int) by omega] at this
          have hcv := fun W => run_string_made (7 * j) (by omega) W
          go_wp2_with
            (first
             | ((go_at_call 9; refine (imm_small j (by omega) _).mono ?_; rintro e w' ⟨rfl, rfl⟩))
             | ((go_at_call 15; refine (tree_push HB.out j (by omega)).mono ?_; rintro e w6 ⟨rfl, M⟩; have M6 := Lib.hid M; clear M HB))
             | ((go_at_call 21; refine (tree_top1 M6.out).mono ?_; rintro e w7 ⟨rfl, M⟩; have M7 := Lib.hid M; clear M M6))
             | ((go_at_call 15; refine (tree_push_top M7.out).mono ?_; rintro e w8 ⟨rfl, M⟩; have M8 := Lib.hid M; clear M M7))
             | ((go_at_call 16; refine (tree_make M8.out htl.out).mono ?_; rintro e w9 ⟨rfl, M⟩; have M9 := Lib.hid M; clear M M8))
             | ((go_at_call 26; refine (tree_raw (treeG_alloc M9.out _) htl.out (zeros (7 * j)) (by rw [zeros_size]; omega)).mono ?_; rintro e w10 ⟨rfl, φ10, r1, r2, M⟩; have M10 := Lib.hid M; clear M M9))
             | ((go_at_call 17; refine (tree_drop M10.out).mono ?_; rintro e w11 ⟨rfl, M⟩; have M11 := Lib.hid M; clear M M10)))
          go_roundg (gk - 1)
          case measure => omega
          case rel => exact ⟨j + 1, φ10, by go_num, by omega, M11.out⟩
        · obtain rfl : j = R := by omega
          go_wp2_with
            (first
             | ((go_at_call 21; refine (tree_top0 HB.out).mono ?_; rintro e w6 ⟨rfl, n6, hw⟩; have M6 : Hid (AtTree w.heap.size w p (items nums texts i) t ds4 bs4 [] φ w6) := (by rw [hw]; exact HB.out.drewN n6); clear hw HB))
             | ((go_at_call 19; refine (tree_height M6.out).mono ?_; rintro e w' ⟨rfl, rfl⟩))
             | ((go_at_call 18; refine (tree_live M6.out (v := L) (by rw [HL.out])).mono ?_; rintro e w7 ⟨rfl, φ7, M⟩; have M7 := Lib.hid M; clear M M6))
             | ((go_at_call 21; refine (tree_top0 M7.out).mono ?_; rintro e w8 ⟨rfl, n8, hw⟩; have M8 : Hid (AtTree w.heap.size w p (items nums texts i) t ds4 bs4 [] φ7 w8) := (by rw [hw]; exact M7.out.drewN n8); clear hw M7))
             | ((go_at_call 29; refine (tree_size M8.out (v := i) (by rw [hlen.out])).mono ?_; rintro e w9 ⟨rfl, n9, hw⟩; have M9 : Hid (AtTree w.heap.size w p (items nums texts i) t ds4 bs4 [] φ7 w9) := (by rw [hw]; exact M8.out.drewN n9); clear hw M8))
             | ((go_at_call 21; refine (tree_top0 M9.out).mono ?_; rintro e w10 ⟨rfl, n10, hw⟩; have M10 : Hid (AtTree w.heap.size w p (items nums texts i) t ds4 bs4 [] φ7 w10) := (by rw [hw]; exact M9.out.drewN n10); clear hw M9)))
          have HR : Hid (ReadLoop w.heap.size w p (items nums texts i) t ds4 bs4 φ7 i i (.int .i64 0) w10) := ⟨0, rfl, by omega, M10.out⟩
          clear M10 hR
          go_loopg [14] i (fun k s wb => ReadLoop w.heap.size w p (items nums texts i) t ds4 bs4 φ7 i k s wb)
          case atStart => exact HR.out
          case round =>
            clear HR
            obtain ⟨q, rfl, hqk, hB⟩ := hrel
            have HB := Lib.hid hB
            clear hB
            by_cases hlq : q < i
            · obtain ⟨bn, on, rfl, hbn, hcn0⟩ := HA.out.num q (by omega)
              obtain ⟨bt, ot, rfl, hbt, hct0⟩ := HA.out.txt q (by omega)
              have hsz := HA.out.siz q (by omega)
              have hig := Lib.hid (items_get nums texts hlq)
              have hit : Hid (itemOf nums texts q = mkItem q (nums.getD q 0) (texts.getD q ⟨#[]⟩)) := rfl
              have CN : Hid (∀ W, Below w.heap.size w W → W.cell? ⟨bn, on + q, none⟩ = some (.int .i64 (nums.getD q 0))) := fun W hW => (hW.cell (p := ⟨bn, on + q, none⟩) hbn).trans hcn0
              have CT : Hid (∀ W, Below w.heap.size w W → W.cell? ⟨bt, ot + q, none⟩ = some (.string (texts.getD q ⟨#[]⟩))) := fun W hW => (hW.cell (p := ⟨bt, ot + q, none⟩) hbt).trans hct0
              generalize nums.getD q 0 = x at CN hit
              generalize texts.getD q ⟨#[]⟩ = s at CT hit hsz
              have hitn := Lib.hid ((congrArg (fun it : TItem => 2 * it.n + 1) hit.out).trans (mkItem_n q x s))
              have hb1 : (q : Int) < (m1 : Int) := by omega
              have hb2 : (q : Int) < (m2 : Int) := by omega
              have hb3 : (q : Int) < 12 := by omega
              have hw10 : IntKind.i64.wrap (10 + (q : Int)) = 10 + (q : Int) := IntWalk.i64_in _ (by omega)
              clear hcn0 hct0
              go_wp2_with
                ((go_at_call 25; refine (tree_field HB.out hig.out rfl).mono ?_; rintro e w20 ⟨d, b, rfl, M⟩; have M20 := Lib.hid M; have c20 := CN.out w20 M20.out.below; have c30 := CT.out w20 M20.out.below; clear M HB))
              by_cases h100 : (100 : Int) < (s.size : Int)
              · have hcl : s.extract 0 100 = clip s := by unfold clip; congr 1; omega
                have hle : (100 : Int) ≤ (s.size : Int) := by omega
                go_region_held3 (fun w' => w'.cell? ⟨bn, on + q, none⟩ = some (.int .i64 x) ∧ w'.cell? ⟨bt, ot + q, none⟩ = some (.string s)) (first | exact ⟨c20, c30⟩ | exact ⟨c21, c31⟩ | exact ⟨c22, c32⟩ | exact ⟨c23, c33⟩ | exact ⟨c24, c34⟩ | go_keep)
                  ((first
                    | ((go_at_call 28; refine ((M20.out.drewN 1).quiet (item_kind (M20.out.drewN 1) (v := 10 + (q : Int)) (by rw [hit.out]; unfold mkItem; simp))).mono ?_; rintro e w21 ⟨rfl, M⟩; have M21 := Lib.hid M; have c21 := CN.out w21 M21.out.below; have c31 := CT.out w21 M21.out.below; clear M))
                    | ((go_at_call 25; (with_reducible refine (M21.out.quiet (item_f0 M21.out hitn.out)).mono ?_); rintro e w22 ⟨rfl, M⟩; have M22 := Lib.hid M; have c22 := CN.out w22 M22.out.below; have c32 := CT.out w22 M22.out.below; clear M))
                    | ((go_at_call 9; refine (imm_any _ _).mono ?_; rintro e w' ⟨rfl, rfl⟩))
                    | ((go_at_call 25; (with_reducible refine (M22.out.quiet (item_f1 M22.out)).mono ?_); rintro e w23 ⟨rfl, M⟩; have M23 := Lib.hid M; have c23 := CN.out w23 M23.out.below; have c33 := CT.out w23 M23.out.below; clear M))
                    | ((go_at_call 30; refine (M23.out.stays (item_bytes M23.out (s := (clip s)) (by rw [hit.out]; unfold mkItem; rfl))).mono ?_; rintro e w24 ⟨rfl, M⟩; have M24 := Lib.hid M; have c24 := CN.out w24 M24.out.below; have c34 := CT.out w24 M24.out.below; clear M))))
                go_wp2
                all_goals
                  go_roundg (gk - 1)
                  case measure => omega
                  case rel => exact ⟨q + 1, by go_num, by omega, M24.out.tree⟩
              · have hcl : Hid (clip s = s) := by unfold clip; rw [show min s.size 100 = s.size by omega]; exact ByteArray.extract_zero_size ..
                have hsz2 : s.size ≤ 100 := by omega
                have hB2 : (s.size : Int) ≤ 100 := by omega
                have hB4 : (if (100 : Int) < (s.size : Int) then (100 : Int) else (s.size : Int)) = (s.size : Int) := by rw [if_neg h100]
                have hsz3 : (0 : Int) ≤ (s.size : Int) := by omega
                go_region_held3 (fun w' => w'.cell? ⟨bn, on + q, none⟩ = some (.int .i64 x) ∧ w'.cell? ⟨bt, ot + q, none⟩ = some (.string s)) (first | exact ⟨c20, c30⟩ | exact ⟨c21, c31⟩ | exact ⟨c22, c32⟩ | exact ⟨c23, c33⟩ | exact ⟨c24, c34⟩ | go_keep)
                  ((first
                    | ((go_at_call 28; refine ((M20.out.drewN 1).quiet (item_kind (M20.out.drewN 1) (v := 10 + (q : Int)) (by rw [hit.out]; unfold mkItem; simp))).mono ?_; rintro e w21 ⟨rfl, M⟩; have M21 := Lib.hid M; have c21 := CN.out w21 M21.out.below; have c31 := CT.out w21 M21.out.below; clear M))
                    | ((go_at_call 25; (with_reducible refine (M21.out.quiet (item_f0 M21.out hitn.out)).mono ?_); rintro e w22 ⟨rfl, M⟩; have M22 := Lib.hid M; have c22 := CN.out w22 M22.out.below; have c32 := CT.out w22 M22.out.below; clear M))
                    | ((go_at_call 9; refine (imm_any _ _).mono ?_; rintro e w' ⟨rfl, rfl⟩))
                    | ((go_at_call 25; (with_reducible refine (M22.out.quiet (item_f1 M22.out)).mono ?_); rintro e w23 ⟨rfl, M⟩; have M23 := Lib.hid M; have c23 := CN.out w23 M23.out.below; have c33 := CT.out w23 M23.out.below; clear M))
                    | ((go_at_call 30; refine (M23.out.stays (item_bytes M23.out (s := s) (by rw [hit.out]; unfold mkItem; rw [hcl.out]))).mono ?_; rintro e w24 ⟨rfl, M⟩; have M24 := Lib.hid M; have c24 := CN.out w24 M24.out.below; have c34 := CT.out w24 M24.out.below; clear M))))
                go_wp2
                all_goals
                  go_roundg (gk - 1)
                  case measure => omega
                  case rel => exact ⟨q + 1, by go_num, by omega, M24.out.tree⟩
            · go_wp2
              go_ret
              exact ⟨rfl, HB.out.below⟩
end Go.Proofs.Ytlbiapgikkjooaa
