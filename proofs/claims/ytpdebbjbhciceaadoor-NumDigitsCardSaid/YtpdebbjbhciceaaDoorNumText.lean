/- Numbers' digits: the program's, the reference's. -/
import Derived.Test.YtpdebbjbhciceaaDoorRefRead
import Derived.Test.YtpdebbjbhciceaaDoorBits
import Derived.WalkSmall
import Derived.WalkLawsBesides
import Derived.Lib.ItoaLen
namespace Go.Proofs.YtpdebbjbhciceaaDoor
open Go.RowKit Go.Sort
set_option linter.unusedVariables false

theorem ret_int {k : IntKind} {a b : Int} (h : a = b) : Ending.returned (.int k a) = .returned (.int k b) := by rw [h]
def bytes (l : List UInt8) : ByteArray := ⟨l.toArray⟩
theorem bytes_size (l : List UInt8) : (bytes l).size = l.length := by simp [bytes, ByteArray.size]
theorem bytes_append (a b : List UInt8) : bytes a ++ bytes b = bytes (a ++ b) := by
  apply Go.WideShapes.bytes_inj
  simp [bytes]
def emptyB (s : ByteArray) : Bool := decide (s.size = 0)
theorem empty1 (s : ByteArray) : s.toList.isEmpty = emptyB s := by
  unfold emptyB; rw [ByteArray.toList_eq]; cases h : s.data.toList <;> simp [ByteArray.size, ← Array.length_toList, h]
theorem wrap_any (n : Int) (w : World) : Calls Tryd.prog 9 #[.int .i64 n] w fun e w' => e = .returned (.int .i64 (wr n)) ∧ w = w' := by
  go_enter Tryd.func9, Tryd.ntmps9
  go_wp2
  go_ret
  exact ⟨ret_int (shl_shr n), rfl⟩
theorem refWrap_any (n : Int) (w : World) : Calls Tryd.prog 16 #[.int .i64 n] w fun e w' => e = .returned (.int .i64 (wr n)) ∧ w = w' := by
  have H : Hid (∀ u : Int, u = IntKind.u64.wrap (IntKind.u64.wrap n * 2) → wrap64 u / 2 = wr n) := fun u hu => by
    subst hu
    obtain ⟨k, h, h1, h2⟩ := wr_spec n
    unfold wrap64
    have e1 : ∀ x : Int, IntKind.u64.wrap x = x % 18446744073709551616 := fun x => rfl
    rw [e1, e1]
    omega
  go_enter Tryd.func16, Tryd.ntmps16
  go_wp2
  go_ret
  exact ⟨ret_int (H.out _ rfl), rfl⟩
abbrev Tab (w : World) : Prop := Lib.TabIs Tryd.prog w "internal/strconv.uint64pow10" .u64 Lib.pow10Tab
theorem Tab.below {w w' : World} (h : Tab w) (hb : Below w.heap.size w w') : Tab w' := by
  have hg : Tryd.prog.globalNamed "internal/strconv.uint64pow10" = some 2 := by kernel_rfl
  have hc := World.var?_cell hg h 0
  exact var?_below hb hg (lt_of_cell' (v := .int .u64 1) (by rw [hc]; rfl)) h
theorem below_grow (w : World) (k : Nat) (os : Array Obj) : Below w.heap.size w (grow (w.drewN k) os) :=
  ⟨rfl, rfl, rfl, by simp, fun i hi => by rw [heap_grow_old _ _ (by simpa using hi)]; simp⟩
set_option maxRecDepth 100000 in
theorem numText_any (n : Int) (w : World) (ht : Tab w) : Calls Tryd.prog 7 #[.int .i64 n] w fun e w' => e = .returned (.string (bytes (Lib.itoa (wr n)))) ∧ Below w.heap.size w w' := by
  have h1 := wr_ge n
  have h2 := wr_le n
  have HI := Lib.hid (Tryd.strconv_Itoa (wr n) (by omega) (by omega) w ht)
  go_enter Tryd.func7, Tryd.ntmps7
  go_wp2_with (first
    | (go_at_call 9; refine (wrap_any _ _).mono ?_; rintro e w' ⟨rfl, rfl⟩)
    | (go_at_call 15; refine HI.out.mono ?_; rintro e w5 ⟨rfl, k, os, rfl⟩))
  go_ret
  exact ⟨rfl, below_grow _ _ _⟩

def dd (u : Nat) (l : List UInt8) : List UInt8 := if u = 0 ∧ l ≠ [] then l else Lib.decDigits u ++ l
theorem dd_next {u : Nat} {l : List UInt8} (h : 0 < u ∨ l = []) : dd u l = dd (u / 10) (UInt8.ofNat (48 + u % 10) :: l) := by
  unfold dd
  rw [if_neg (by rintro ⟨h1, h2⟩; rcases h with h | h; omega; exact h2 h)]
  by_cases h10 : u < 10
  · rw [if_pos ⟨by omega, by simp⟩, Lib.decDigits_one h10, Nat.mod_eq_of_lt h10]; rfl
  · rw [if_neg (by rintro ⟨h1, _⟩; omega), Lib.decDigits, dif_neg h10, List.append_assoc]; rfl
theorem dd_end {u : Nat} {l : List UInt8} (h1 : u = 0) (h2 : l ≠ []) : dd u l = l := if_pos ⟨h1, h2⟩
theorem dd_len (u : Nat) (l : List UInt8) : l.length ≤ (dd u l).length := by unfold dd; split <;> simp
theorem dig_val (u : Nat) : ((UInt8.ofNat (48 + u % 10)).toNat : Int) = 48 + (u : Int) % 10 := by
  rw [UInt8.toNat_ofNat']
  omega
theorem dlen (u : Nat) (h : u ≤ 4611686018427387904) : (Lib.decDigits u).length ≤ 21 := by
  have := Lib.itoa_length_le (u : Int) (by omega) (by omega)
  rwa [Lib.itoa_nonneg] at this
theorem conv_one (w : World) (c : UInt8) (x : Int) (hx : x = (c.toNat : Int)) : (convert 38 9 (.slice (some ⟨w.heap.size, 0, none⟩) 1 1)).run Tryd.prog (w.alloc (.cells #[.int .u8 x] 5)) = .ok (.string (bytes [c])) (w.alloc (.cells #[.int .u8 x] 5)) := by
  subst hx
  exact run_convert_bytes_back (P := Tryd.prog) (w.alloc (.cells #[.int .u8 (c.toNat : Int)] 5)) 38 9 5 ⟨w.heap.size, 0, none⟩ 1 [c] Tryd.underlying38 Tryd.underlying5 Tryd.underlying9 (fun j hj => by
    obtain rfl : j = 0 := by simpa using hj
    simp [Addr.add])
def DLoop (w : World) (u0 : Nat) (gk : Nat) (s4 s5 : Value) (wr : World) : Prop :=
  ∃ (u : Nat) (l : List UInt8), s4 = .int .u64 u ∧ s5 = .string (bytes l) ∧ gk = u + (if l = [] then 1 else 0) ∧ u ≤ u0 ∧ Lib.decDigits u0 = dd u l ∧ Below w.heap.size w wr

set_option maxRecDepth 100000 in
set_option maxHeartbeats 1600000 in
theorem refText_any (n : Int) (w : World) : Calls Tryd.prog 8 #[.int .i64 n] w fun e w' => e = .returned (.string (bytes (Lib.itoa (wr n)))) ∧ Below w.heap.size w w' := by
  have h1 := wr_ge n
  have h2 := wr_le n
  have HW := Lib.hid (refWrap_any n w)
  obtain ⟨v, hv⟩ : ∃ v, wr n = v := ⟨_, rfl⟩
  rw [hv] at h1 h2 HW ⊢
  by_cases hneg : v < 0
  · obtain ⟨u0, rfl, hu0⟩ : ∃ u0 : Nat, v = -(u0 : Int) ∧ 1 ≤ u0 := ⟨v.natAbs, by omega, by omega⟩
    obtain ⟨z, hz1⟩ : ∃ z, IntKind.u64.wrap (-(u0 : Int)) = z := ⟨_, rfl⟩
    have hz2 : IntKind.u64.wrap (-z) = (u0 : Int) := by
      rw [← hz1]
      show (-((-(u0 : Int)) % 18446744073709551616)) % 18446744073709551616 = _
      omega
    have HU0 : Hid (u0 ≤ 4611686018427387904) := by show u0 ≤ 4611686018427387904; omega
    have hp : 0 < u0 := hu0
    clear h1 h2 hv
    go_enter Tryd.func8, Tryd.ntmps8
    go_wp2_with (go_at_call 16; refine HW.out.mono ?_; rintro e w' ⟨rfl, rfl⟩)
    try rw [decide_eq_true (by assumption)]
    have HL : Hid (DLoop w u0 (u0 + 1) (.int .u64 u0) (.string ⟨#[]⟩) w) := ⟨u0, [], rfl, rfl, by simp, Nat.le_refl _, by simp [dd], Below.refl _ _⟩
    go_loopg [4, 5] (u0 + 1) (fun gk s4 s5 wr => DLoop w u0 gk s4 s5 wr)
    case atStart => exact HL.out
    case round =>
      clear HL
      obtain ⟨u, l, rfl, rfl, hgk, hu, hd, hb⟩ := hrel
      have HB := Lib.hid hb
      have HGK := Lib.hid hgk
      have HD := Lib.hid hd
      have HU := Lib.hid hu
      have HLE : Hid (l.length ≤ 21) := (by have := dd_len u l; rw [← hd] at this; exact Nat.le_trans this (dlen u0 HU0.out))
      clear hb hgk hd hu
      have g0 : (0 : Int) ≤ (u : Int) := by omega
      have HSM : Hid (u ≤ 4611686018427387904) := Nat.le_trans HU.out HU0.out
      by_cases hgo : 0 < u ∨ l = []
      · have HN := Lib.hid (dd_next hgo)
        obtain ⟨d, hd⟩ : ∃ d, UInt8.ofNat (48 + u % 10) = d := ⟨_, rfl⟩
        have hdv := dig_val u
        rw [hd] at HN hdv
        have hcv := conv_one wr d (48 + (u : Int) % 10) hdv.symm
        have hb0 : (0 : Int) ≤ (u : Int) % 10 := by omega
        have hb1 : (u : Int) % 10 < 10 := by omega
        have HBS := Lib.hid (bytes_size l)
        have HAP := Lib.hid (bytes_append [d] l)
        have hs1 : ¬ 9223372036854775807 < 1 + (bytes l).size := by rw [bytes_size]; have := HLE.out; omega
        have HWQ : Hid (IntKind.u64.wrap ((u : Int) / 10) = ((u / 10 : Nat) : Int)) := by
          show (u : Int) / 10 % 18446744073709551616 = _
          have := HSM.out
          omega
        by_cases hu0 : 0 < u
        · have hu1 : (0 : Int) < (u : Int) := by omega
          clear hgo hd hdv
          go_wp2
          go_roundg (u / 10)
          case measure => have := HGK.out; omega
          case rel => exact ⟨u / 10, d :: l, by rw [HWQ.out], by rw [HAP.out]; rfl, by simp, by have := HU.out; omega, HD.out.trans HN.out, HB.out.trans ((Below.refl _ _).alloc HB.out.size _)⟩
        · have hl : l = [] := by rcases hgo with h | h; exact absurd h hu0; exact h
          subst hl
          obtain rfl : u = 0 := by omega
          clear hgo hd hdv
          replace hcv : (convert 38 9 (.slice (some ⟨wr.heap.size, 0, none⟩) 1 1)).run Tryd.prog (wr.alloc (.cells #[.int .u8 48] 5)) = .ok (.string (bytes [d])) (wr.alloc (.cells #[.int .u8 48] 5)) := hcv
          have he : bytes [] = ⟨#[]⟩ := rfl
          rw [he] at HAP hs1 ⊢
          clear he
          go_wp2
          go_roundg 0
          case measure => have := HGK.out; simp at this; omega
          case rel => exact ⟨0, [d], rfl, by rw [HAP.out]; rfl, by simp, by omega, HD.out.trans HN.out, HB.out.trans ((Below.refl _ _).alloc HB.out.size _)⟩
      · have hu0 : u = 0 := by by_cases h : 0 < u; exact absurd (.inl h) hgo; omega
        have hl : l ≠ [] := fun h => hgo (.inr h)
        subst hu0
        have hN := HD.out
        rw [dd_end rfl hl] at hN
        have HN := Lib.hid hN
        have hne : (bytes l).toList.isEmpty = false := by rw [empty1]; simp [emptyB, bytes_size]; exact hl
        have HAP := Lib.hid (bytes_append [45] l)
        have hsz : ¬ 9223372036854775807 < 1 + (bytes l).size := by rw [bytes_size]; have := HLE.out; omega
        clear hgo hN hl
        go_wp2
        go_ret
        refine ⟨?_, HB.out⟩
        rw [Lib.itoa_neg _ hu0, HN.out]
        exact congrArg (fun s => Ending.returned (Value.string s)) HAP.out
  · obtain ⟨u0, rfl⟩ : ∃ u0 : Nat, v = (u0 : Int) := ⟨v.toNat, by omega⟩
    have hz2 : IntKind.u64.wrap (u0 : Int) = (u0 : Int) := by
      show (u0 : Int) % 18446744073709551616 = _
      omega
    have HU0 : Hid (u0 ≤ 4611686018427387904) := by show u0 ≤ 4611686018427387904; omega
    have hnn : ¬ (u0 : Int) < 0 := by omega
    clear h1 h2 hv
    go_enter Tryd.func8, Tryd.ntmps8
    go_wp2_with (go_at_call 16; refine HW.out.mono ?_; rintro e w' ⟨rfl, rfl⟩)
    have HL : Hid (DLoop w u0 (u0 + 1) (.int .u64 u0) (.string ⟨#[]⟩) w) := ⟨u0, [], rfl, rfl, by simp, Nat.le_refl _, by simp [dd], Below.refl _ _⟩
    go_loopg [4, 5] (u0 + 1) (fun gk s4 s5 wr => DLoop w u0 gk s4 s5 wr)
    case atStart => exact HL.out
    case round =>
      clear HL
      obtain ⟨u, l, rfl, rfl, hgk, hu, hd, hb⟩ := hrel
      have HB := Lib.hid hb
      have HGK := Lib.hid hgk
      have HD := Lib.hid hd
      have HU := Lib.hid hu
      have HLE : Hid (l.length ≤ 21) := (by have := dd_len u l; rw [← hd] at this; exact Nat.le_trans this (dlen u0 HU0.out))
      clear hb hgk hd hu
      have g0 : (0 : Int) ≤ (u : Int) := by omega
      have HSM : Hid (u ≤ 4611686018427387904) := Nat.le_trans HU.out HU0.out
      by_cases hgo : 0 < u ∨ l = []
      · have HN := Lib.hid (dd_next hgo)
        obtain ⟨d, hd⟩ : ∃ d, UInt8.ofNat (48 + u % 10) = d := ⟨_, rfl⟩
        have hdv := dig_val u
        rw [hd] at HN hdv
        have hcv := conv_one wr d (48 + (u : Int) % 10) hdv.symm
        have hb0 : (0 : Int) ≤ (u : Int) % 10 := by omega
        have hb1 : (u : Int) % 10 < 10 := by omega
        have HBS := Lib.hid (bytes_size l)
        have HAP := Lib.hid (bytes_append [d] l)
        have hs1 : ¬ 9223372036854775807 < 1 + (bytes l).size := by rw [bytes_size]; have := HLE.out; omega
        have HWQ : Hid (IntKind.u64.wrap ((u : Int) / 10) = ((u / 10 : Nat) : Int)) := by
          show (u : Int) / 10 % 18446744073709551616 = _
          have := HSM.out
          omega
        by_cases hu0 : 0 < u
        · have hu1 : (0 : Int) < (u : Int) := by omega
          clear hgo hd hdv
          go_wp2
          go_roundg (u / 10)
          case measure => have := HGK.out; omega
          case rel => exact ⟨u / 10, d :: l, by rw [HWQ.out], by rw [HAP.out]; rfl, by simp, by have := HU.out; omega, HD.out.trans HN.out, HB.out.trans ((Below.refl _ _).alloc HB.out.size _)⟩
        · have hl : l = [] := by rcases hgo with h | h; exact absurd h hu0; exact h
          subst hl
          obtain rfl : u = 0 := by omega
          clear hgo hd hdv
          replace hcv : (convert 38 9 (.slice (some ⟨wr.heap.size, 0, none⟩) 1 1)).run Tryd.prog (wr.alloc (.cells #[.int .u8 48] 5)) = .ok (.string (bytes [d])) (wr.alloc (.cells #[.int .u8 48] 5)) := hcv
          have he : bytes [] = ⟨#[]⟩ := rfl
          rw [he] at HAP hs1 ⊢
          clear he
          go_wp2
          go_roundg 0
          case measure => have := HGK.out; simp at this; omega
          case rel => exact ⟨0, [d], rfl, by rw [HAP.out]; rfl, by simp, by omega, HD.out.trans HN.out, HB.out.trans ((Below.refl _ _).alloc HB.out.size _)⟩
      · have hu0 : u = 0 := by by_cases h : 0 < u; exact absurd (.inl h) hgo; omega
        have hl : l ≠ [] := fun h => hgo (.inr h)
        subst hu0
        have hN := HD.out
        rw [dd_end rfl hl] at hN
        have HN := Lib.hid hN
        have hne : (bytes l).toList.isEmpty = false := by rw [empty1]; simp [emptyB, bytes_size]; exact hl
        have hsz : ¬ 9223372036854775807 < 1 + (bytes l).size := by rw [bytes_size]; have := HLE.out; omega
        clear hgo hN hl
        go_wp2
        go_ret
        refine ⟨?_, HB.out⟩
        rw [Lib.itoa_nonneg, HN.out]
        exact congrArg (fun s => Ending.returned (Value.string s)) rfl
end Go.Proofs.YtpdebbjbhciceaaDoor
