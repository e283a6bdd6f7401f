/- The laws of layer 10: number and spell: a token, as it is written. -/
import Derived.Test.YtlailomhgipppaaGreatDoorLexWalk1
import Derived.Test.YtlailomhgipppaaGreatDoorLexBlankP
namespace Go.Proofs.YtlailomhgipppaaGreatDoor
open Go.RowKit Lx
set_option linter.unusedVariables false
set_option linter.unusedSimpArgs false

/-- How far number has come: what is left, and the digits behind it. -/
def NumAt (u r : Nat) (acc : List UInt8) : Prop := (acc = [] ∧ r = u) ∨ (acc ≠ [] ∧ (if r = 0 then [] else Lib.decDigits r) ++ acc = Lib.decDigits u)
theorem NumAt.next {u r : Nat} {acc : List UInt8} (h : NumAt u r acc) (hgo : 0 < r ∨ acc = []) : NumAt u (r / 10) (UInt8.ofNat (48 + r % 10) :: acc) := by
  refine .inr ⟨by simp, ?_⟩
  have key : (if r / 10 = 0 then [] else Lib.decDigits (r / 10)) ++ [UInt8.ofNat (48 + r % 10)] = Lib.decDigits r := by
    by_cases h10 : r < 10
    · rw [if_pos (by omega), Lib.decDigits_one h10, Nat.mod_eq_of_lt h10]; rfl
    · rw [if_neg (by omega)]
      conv => rhs; rw [Lib.decDigits]
      rw [dif_neg h10]
  rw [show (if r / 10 = 0 then [] else Lib.decDigits (r / 10)) ++ UInt8.ofNat (48 + r % 10) :: acc = ((if r / 10 = 0 then [] else Lib.decDigits (r / 10)) ++ [UInt8.ofNat (48 + r % 10)]) ++ acc by simp, key]
  rcases h with ⟨rfl, rfl⟩ | ⟨h1, h2⟩
  · simp
  · rcases hgo with hr | hr
    · rw [if_neg (by omega)] at h2; exact h2
    · exact absurd hr h1
theorem NumAt.len {u r : Nat} {c : UInt8} {acc : List UInt8} (h : NumAt u r (c :: acc)) (hu : u ≤ 4611686018427387903) : (c :: acc).length ≤ 21 := by
  rcases h with ⟨h1, _⟩ | ⟨_, h2⟩
  · cases h1
  · have h3 := congrArg List.length h2
    rw [List.length_append] at h3
    have h4 := Lib.itoa_length_le (u : Int) (by omega) (by omega)
    rw [Lib.itoa_nonneg] at h4
    omega
def NumLoop (u : Nat) (w : World) (gk : Nat) (s0 s3 : Value) (wr : World) : Prop :=
  ∃ (r : Nat) (acc : List UInt8), gk = r + (if acc = [] then 1 else 0) ∧ r ≤ u ∧ s0 = .int .i64 (r : Int) ∧ s3 = .string (bytes acc) ∧ acc.length ≤ 21 ∧ NumAt u r acc ∧ Below w.heap.size w wr
set_option maxRecDepth 100000 in
set_option maxHeartbeats 1600000 in
theorem number_pos (u : Nat) (hu : u ≤ 4611686018427387903) (w : World) :
    Calls Tryz.prog 15 #[.int .i64 (u : Int)] w fun e w' => e = .returned (.string (bytes (Lib.decDigits u))) ∧ Below w.heap.size w w' := by
  have u1 : ((u : Int) == -4611686018427387904) = false := by simp only [beq_eq_false_iff_ne]; omega
  have u2 : ¬ (u : Int) < 0 := by omega
  go_enter Tryz.func15, Tryz.ntmps15
  go_wp2
  go_loopg [0, 3] (u + 1) (fun gk s0 s3 wr => NumLoop u w gk s0 s3 wr)
  case atStart => exact ⟨u, [], by simp, Nat.le_refl _, rfl, rfl, by simp, .inl ⟨rfl, rfl⟩, Below.refl _ _⟩
  case round =>
    obtain ⟨r, acc, hgk, hru, rfl, rfl, hal, hat, hb⟩ := hrel
    have HGK := Lib.hid hgk
    have HAT := Lib.hid hat
    have HB := Lib.hid hb
    have HAL := Lib.hid hal
    have HRU := Lib.hid hru
    have ru : (r : Int) ≤ 4611686018427387903 := by omega
    have r0 : (0 : Int) ≤ (r : Int) := by omega
    clear hgk hat hb hal hru
    by_cases hgo : 0 < r ∨ acc = []
    · have HGO := Lib.hid hgo
      obtain ⟨dg, hdg⟩ : ∃ dg, dg = UInt8.ofNat (48 + r % 10) := ⟨_, rfl⟩
      have HNR := Lib.hid (new_row wr [dg] #[.int .u8 (48 + (r : Int) % 10)] (by rw [hdg]; simp [bvals, UInt8.toNat_ofNat']; omega) (by simp))
      have HDG := Lib.hid hdg
      clear hdg
      have hsz : ¬ 9223372036854775807 < (bytes [dg]).size + (bytes acc).size := by rw [bytes_size, bytes_size]; have := HAL.out; simp; omega
      have hc := run_row_str HNR.out (by simp)
      simp only [List.length_singleton] at hc
      have ht : ((r : Int)).tmod 10 = (r : Int) % 10 := Int.tmod_eq_emod_of_nonneg r0
      have hq : ((r : Int)).tdiv 10 = ((r / 10 : Nat) : Int) := by rw [Int.tdiv_eq_ediv_of_nonneg r0]; omega
      by_cases hr : 0 < r
      · have r1 : (0 : Int) < (r : Int) := by omega
        clear hgo
        go_wp2
        go_roundg (r / 10)
        case measure => have := HGK.out; omega
        case rel => exact ⟨r / 10, dg :: acc, by simp, by have := HRU.out; omega, rfl, congrArg Value.string (bytes_append [dg] acc), NumAt.len (HDG.out ▸ HAT.out.next HGO.out) hu, HDG.out ▸ HAT.out.next HGO.out, HB.out.alloc HB.out.size _⟩
      · obtain rfl : r = 0 := by omega
        have hacc : acc = [] := by rcases hgo with h | h; exact absurd h hr; exact h
        subst hacc
        clear hgo hr
        have hbe : bytes [] = ⟨#[]⟩ := rfl
        rw [hbe] at hsz ⊢
        rw [show (48 : Int) + ((0 : Nat) : Int) % 10 = 48 from rfl] at hc
        go_wp2
        go_roundg 0
        case measure => have := HGK.out; simp at this; omega
        case rel => exact ⟨0, [dg], by simp, by omega, rfl, rfl, by simp, HDG.out ▸ HAT.out.next (.inr rfl), HB.out.alloc HB.out.size _⟩
    · have hr0 : r = 0 := by omega
      subst hr0
      have hacc : acc ≠ [] := fun h => hgo (.inr h)
      have hie : (bytes acc).toList.isEmpty = false := by
        rw [emp_iff, show (bytes acc).data.toList = acc by simp [bytes]]
        cases acc with
        | nil => exact absurd rfl hacc
        | cons a b => rfl
      have HAC := Lib.hid hacc
      clear hgo hacc
      go_wp2
      go_ret
      have h := HAT.out
      rcases h with ⟨h1, _⟩ | ⟨_, h2⟩
      · exact absurd h1 HAC.out
      · rw [if_pos rfl, List.nil_append] at h2
        exact ⟨by rw [h2]; rfl, HB.out⟩
set_option maxRecDepth 100000 in
theorem number_any (n : Int) (h1 : -4611686018427387904 ≤ n) (h2 : n ≤ 4611686018427387903) (w : World) :
    Calls Tryz.prog 15 #[.int .i64 n] w fun e w' => e = .returned (.string (bytes (Lib.itoa n))) ∧ Below w.heap.size w w' := by
  by_cases hn : n < 0
  · by_cases hm : n = -4611686018427387904
    · subst hm
      have hi : bytes (Lib.itoa (-4611686018427387904)) = ⟨#[45, 52, 54, 49, 49, 54, 56, 54, 48, 49, 56, 52, 50, 55, 51, 56, 55, 57, 48, 52]⟩ := by decide +kernel
      rw [hi]
      go_enter Tryz.func15, Tryz.ntmps15
      go_wp2
      go_ret
      exact ⟨rfl, Below.refl _ _⟩
    · obtain ⟨u, rfl⟩ : ∃ u : Nat, n = -(u : Int) := ⟨n.natAbs, by omega⟩
      have u1 : ((-(u : Int)) == -4611686018427387904) = false := by simp only [beq_eq_false_iff_ne]; omega
      have hu : (u : Int) ≤ 4611686018427387903 := by omega
      have hu2 : u ≤ 4611686018427387903 := by omega
      have HN := Lib.hid (number_pos u hu2 w)
      have hi : Lib.itoa (-(u : Int)) = 45 :: Lib.decDigits u := by
        unfold Lib.itoa
        rw [if_pos hn]
        congr 2
        omega
      rw [hi]
      have hl := Lib.itoa_length_le (u : Int) (by omega) (by omega)
      rw [Lib.itoa_nonneg] at hl
      have hsz : ¬ 9223372036854775807 < 1 + (bytes (Lib.decDigits u)).size := by rw [bytes_size]; omega
      have hb1 : (⟨#[45]⟩ : ByteArray) ++ bytes (Lib.decDigits u) = bytes (45 :: Lib.decDigits u) := bytes_append [45] _
      have HB1 := Lib.hid hb1
      clear hm hi hl hb1 h1 h2 hu2
      go_enter Tryz.func15, Tryz.ntmps15
      go_wp2_with (go_at_call 15; refine HN.out.mono ?_; rintro e w1 ⟨rfl, hb⟩; have HB := Lib.hid hb; clear hb; dsimp only)
      go_ret
      exact ⟨by rw [HB1.out]; rfl, HB.out⟩
  · obtain ⟨u, rfl⟩ : ∃ u : Nat, n = u := ⟨n.toNat, by omega⟩
    rw [Lib.itoa_nonneg]
    exact number_pos u (by omega) w
theorem hexd_cut (u : Nat) (h : u < 16) : (ByteArray.mk #[48, 49, 50, 51, 52, 53, 54, 55, 56, 57, 97, 98, 99, 100, 101, 102]).extract u (u + 1) = bytes [hexd u] := by
  have key : ∀ k : Fin 16, (ByteArray.mk #[48, 49, 50, 51, 52, 53, 54, 55, 56, 57, 97, 98, 99, 100, 101, 102]).extract k.val (k.val + 1) = bytes [hexd k.val] := by decide +kernel
  exact key ⟨u, h⟩
def SpLoop (w : World) (l : List UInt8) (gk : Nat) (s4 s5 : Value) (wr : World) : Prop :=
  ∃ i : Nat, s5 = .int .i64 (i : Int) ∧ i + gk = l.length ∧ s4 = .string (bytes (34 :: hxs (l.take i))) ∧ Below w.heap.size w wr
theorem hxs_next {l : List UInt8} {i : Nat} {c : UInt8} (h : l[i]? = some c) : 34 :: hxs (l.take (i + 1)) = (34 :: hxs (l.take i)) ++ [92, 120, hexd (c.toNat / 16), hexd (c.toNat % 16)] := by
  rw [List.take_add_one, h]
  show 34 :: hxs (l.take i ++ [c]) = _
  unfold hxs
  rw [List.flatMap_append]
  simp [hx]
set_option maxRecDepth 100000 in
set_option maxHeartbeats 4000000 in
theorem spell_four (li co n : Int) (l : List UInt8) (hl : l.length ≤ 5000) (w : World) :
    Calls Tryz.prog 8 #[.agg #[.int .i64 4, .int .i64 li, .int .i64 co, .int .i64 n, .string (bytes l)]] w fun e w' => e = .returned (.string (bytes (34 :: (hxs l ++ [34])))) ∧ Below w.heap.size w w' := by
  have HB0 : Hid (Below w.heap.size w (w.alloc (.cells #[.int .i64 4, .int .i64 li, .int .i64 co, .int .i64 n, .string (bytes l)] 35))) := (Below.refl _ _).alloc (Nat.le_refl _) _
  have hbl : (w.alloc (.cells #[.int .i64 4, .int .i64 li, .int .i64 co, .int .i64 n, .string (bytes l)] 35)).heap[w.heap.size]? = some (.cells #[.int .i64 4, .int .i64 li, .int .i64 co, .int .i64 n, .string (bytes l)] 35 (0, 0)) := heap_alloc_new w _
  have HBL := Lib.hid hbl
  have hbs : (bytes l).size = l.length := bytes_size l
  have HBS := Lib.hid hbs
  clear hbl hbs
  go_enter Tryz.func8, Tryz.ntmps8
  go_wp2
  have HBW : Hid ((w.alloc (.cells #[.int .i64 4, .int .i64 li, .int .i64 co, .int .i64 n, .string (bytes l)] 35)).cell? ⟨w.heap.size, 4, none⟩ = some (.string (bytes l))) := by
    show _ = _
    unfold World.cell?
    rw [HBL.out]
    rfl
  have hlt0 : w.heap.size < (w.alloc (.cells #[.int .i64 4, .int .i64 li, .int .i64 co, .int .i64 n, .string (bytes l)] 35)).heap.size := by simp
  generalize hw1 : w.alloc (.cells #[.int .i64 4, .int .i64 li, .int .i64 co, .int .i64 n, .string (bytes l)] 35) = w1 at *
  clear hw1 HBL
  go_loopg [4, 5] l.length (fun gk s4 s5 wr => SpLoop w1 l gk s4 s5 wr)
  case atStart => exact ⟨0, rfl, by omega, rfl, Below.refl _ _⟩
  case round =>
    obtain ⟨i, rfl, hik, rfl, hb⟩ := hrel
    have HB := Lib.hid hb
    have z4 : wr.cell? ⟨w.heap.size, 4, none⟩ = some (.string (bytes l)) := (hb.cell (p := ⟨w.heap.size, 4, none⟩) hlt0).trans HBW.out
    clear hb
    obtain ⟨p, hp⟩ : ∃ p, p = 34 :: hxs (l.take i) := ⟨_, rfl⟩
    have hpl : p.length ≤ 20001 := by
      rw [hp, List.length_cons, hxs_len, List.length_take]; omega
    rw [← hp]
    have HP := Lib.hid hp
    have HPL := Lib.hid hpl
    clear hp hpl
    have g0 : (0 : Int) ≤ (i : Int) := by omega
    have hsi : (bytes l).size = l.length := HBS.out
    by_cases hlt : i < l.length
    · obtain ⟨c, hc⟩ : ∃ c, l[i]? = some c := ⟨_, List.getElem?_eq_getElem hlt⟩
      have hlt2 : i < (bytes l).size := by rw [hsi]; exact hlt
      have hcb : (bytes l)[i]'hlt2 = c := by
        have h1 : (bytes l).data.toList = l := by simp [bytes]
        have := Lib.getD_at (bytes l) i hlt2
        rw [h1, List.getD_eq_getElem?_getD, hc, Option.getD_some] at this
        first | exact this | exact this.symm
      have g1 : (i : Int) < ((bytes l).size : Int) := by omega
      have HN := Lib.hid (hxs_next hc)
      obtain ⟨a, ha⟩ : ∃ a, c.toNat / 16 = a := ⟨_, rfl⟩
      obtain ⟨b, hb⟩ : ∃ b, c.toNat % 16 = b := ⟨_, rfl⟩
      have hc256 := UInt8.toNat_lt c
      have ha16 : a < 16 := by omega
      have hb16 : b < 16 := by omega
      rw [ha, hb] at HN
      have hd1 : (c.toNat : Int).tdiv 16 = (a : Int) := by rw [← ha]; rfl
      have hd2 : (c.toNat : Int) / 16 = (a : Int) := by rw [← ha]; rfl
      have hm1 : (c.toNat : Int).tmod 16 = (b : Int) := by rw [← hb]; rfl
      have hm2 : (c.toNat : Int) % 16 = (b : Int) := by rw [← hb]; rfl
      have hw1 : IntKind.u8.wrap ((a : Int) + 1) = (a : Int) + 1 := by rw [IntKind.wrap_u8]; omega
      have hw2 : IntKind.u8.wrap ((b : Int) + 1) = (b : Int) + 1 := by rw [IntKind.wrap_u8]; omega
      have hw3 : IntKind.u8.wrap (a : Int) = (a : Int) := by rw [IntKind.wrap_u8]; omega
      have hw4 : IntKind.u8.wrap (b : Int) = (b : Int) := by rw [IntKind.wrap_u8]; omega
      have hca := hexd_cut a ha16
      have hcb2 := hexd_cut b hb16
      have a0 : (0 : Int) ≤ (a : Int) := by omega
      have a1 : (a : Int) ≤ 15 := by omega
      have a3 : (a : Int) + 1 ≤ 16 := by omega
      have a4 : a + 1 ≤ 16 := by omega
      have a2 : (a : Int) ≤ (a : Int) + 1 := by omega
      have b2' : (b : Int) ≤ (b : Int) + 1 := by omega
      have b0 : (0 : Int) ≤ (b : Int) := by omega
      have b01 : (b : Int) ≤ 15 := by omega
      have b3 : (b : Int) + 1 ≤ 16 := by omega
      have b4 : b + 1 ≤ 16 := by omega
      have hsz : (ByteArray.mk #[48, 49, 50, 51, 52, 53, 54, 55, 56, 57, 97, 98, 99, 100, 101, 102]).size = 16 := rfl
      have hs1 : ¬ 9223372036854775807 < (bytes p).size + 2 := by rw [bytes_size]; have := HPL.out; omega
      have hs2 : ¬ 9223372036854775807 < (bytes p).size + 2 + (bytes [hexd a]).size := by rw [bytes_size, bytes_size]; have := HPL.out; simp; omega
      have hs3 : ¬ 9223372036854775807 < (bytes p).size + 2 + (bytes [hexd a]).size + (bytes [hexd b]).size := by rw [bytes_size, bytes_size, bytes_size]; have := HPL.out; simp; omega
      have HJ : Hid (bytes (p ++ [92, 120, hexd a, hexd b]) = bytes p ++ ⟨#[92, 120]⟩ ++ bytes [hexd a] ++ bytes [hexd b]) := by
        show _ = _
        rw [show (⟨#[92, 120]⟩ : ByteArray) = bytes [92, 120] from rfl, bytes_append, bytes_append, bytes_append]
        simp
      have hi5 : (i : Int) ≤ 5000 := by omega
      have HIK := Lib.hid hik
      have HLT := Lib.hid hlt
      clear ha hb hc hik hsi hc256 hlt ha16 hb16
      go_wp2
      go_quiet (fail)
      go_wp2
      go_roundg (gk - 1)
      case measure => have := HIK.out; have := HLT.out; omega
      case rel => exact ⟨i + 1, by go_num, by have := HIK.out; have := HLT.out; omega, by rw [HN.out, ← HP.out, HJ.out], below_drewN HB.out _⟩
    · have hil : i = l.length := by omega
      have g1 : ¬ (i : Int) < ((bytes l).size : Int) := by omega
      have HZ : Hid (34 :: (hxs l ++ [34]) = p ++ [34]) := by show _ = _; rw [HP.out, List.take_of_length_le (by omega)]; rfl
      have hs1 : ¬ 9223372036854775807 < (bytes p).size + 1 := by rw [bytes_size]; have := HPL.out; omega
      clear hil hik hsi hlt
      go_wp2
      go_ret
      refine ⟨?_, HB0.out.trans (HB.out.mono HB0.out.size)⟩
      rw [HZ.out, ← bytes_append]
      rfl
set_option maxRecDepth 100000 in
/-- spell: a token, as it is written. -/
theorem spell_any (t : Tok) (h : Lx.Good t) (w : World) :
    Calls Tryz.prog 8 #[.agg #[.int .i64 t.kind, .int .i64 t.line, .int .i64 t.col, .int .i64 t.num, .string (bytes t.text)]] w fun e w' => e = .returned (.string (bytes (spellT t))) ∧ Below w.heap.size w w' := by
  have HB0 : ∀ o, Hid (Below w.heap.size w (w.alloc o)) := fun o => (Below.refl _ _).alloc (Nat.le_refl _) _
  cases h with
  | open_ l c =>
    go_enter Tryz.func8, Tryz.ntmps8
    go_wp2
    go_ret
    exact ⟨rfl, (HB0 _).out⟩
  | close l c =>
    go_enter Tryz.func8, Tryz.ntmps8
    go_wp2
    go_ret
    exact ⟨rfl, (HB0 _).out⟩
  | int l c n h1 h2 =>
    have HN := Lib.hid (number_any n h1 h2 (w.alloc (.cells #[.int .i64 2, .int .i64 l, .int .i64 c, .int .i64 n, .string (bytes [])] 35)))
    clear h1 h2
    go_enter Tryz.func8, Tryz.ntmps8
    go_wp2_with (go_at_call 15; (with_reducible refine HN.out.mono ?_); rintro e w1 ⟨rfl, hb⟩; have HB := Lib.hid ((HB0 _).out.trans (hb.mono (HB0 _).out.size)); clear hb HN; dsimp only)
    go_ret
    exact ⟨rfl, HB.out⟩
  | float l c tt ht =>
    go_enter Tryz.func8, Tryz.ntmps8
    go_wp2
    go_ret
    exact ⟨rfl, (HB0 _).out⟩
  | str l c tt ht => exact spell_four l c 0 tt (by omega) w
  | word k l c tt hk hw hne hall =>
    clear hw hne hall
    rcases hk with rfl | rfl
    · go_enter Tryz.func8, Tryz.ntmps8
      go_wp2
      go_ret
      exact ⟨rfl, (HB0 _).out⟩
    · go_enter Tryz.func8, Tryz.ntmps8
      go_wp2
      go_ret
      exact ⟨rfl, (HB0 _).out⟩
end Go.Proofs.YtlailomhgipppaaGreatDoor
