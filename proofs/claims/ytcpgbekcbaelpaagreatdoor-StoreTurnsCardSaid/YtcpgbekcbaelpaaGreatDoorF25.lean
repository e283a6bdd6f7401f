/- Texts of the proof, in build order: Text, TopG, RdRef, RdRef2, RdProg, RdProg2, RdProg3, RdFn, Read, Get, Dec, StMem, DkMem, RBs. -/
import Derived.Test.YtcpgbekcbaelpaaGreatDoorF24
import Derived.WalkSmall
import Derived.Lib.ItoaLen
import Derived.Test.YtcpgbekcbaelpaaGreatDoorF14
import Derived.Test.YtcpgbekcbaelpaaGreatDoorF13
import Derived.Deep.DeepCutAuto
import Derived.Deep.CutBlock
import Derived.Test.YtcpgbekcbaelpaaGreatDoorF10
set_option linter.unusedVariables false
set_option linter.unusedSimpArgs false
set_option linter.unusedSectionVars false
/- The program's Text. -/
namespace Go.Proofs.YtcpgbekcbaelpaaGreatDoor
open Go.RowKit Go.Maps Go.Sort Wr
set_option linter.unusedVariables false

abbrev Tab (w : World) : Prop := Lib.TabIs Tryz.prog w "internal/strconv.uint64pow10" .u64 Lib.pow10Tab
theorem Tab.below {w w' : World} (h : Tab w) (hb : Below w.heap.size w w') : Tab w' := by
  have hg : Tryz.prog.globalNamed "internal/strconv.uint64pow10" = some 3 := by kernel_rfl
  have hc := World.var?_cell hg h 0
  exact var?_below hb hg (lt_of_cell (v := .int .u64 1) (by rw [hc]; rfl)) h
def topTxt (F : Nat → List UInt8) (k n : Int) (s : ByteArray) (j : List UInt8) (m : Nat) : List UInt8 :=
  if k = 0 then Lib.itoa (wr n) else if k = 1 then F (bitsOf s.data.toList) else if k = 2 then quoteB s.data.toList else if k = 3 then 67 :: (Lib.itoa (wr n) ++ if m = 0 then [] else 40 :: (j ++ [41])) else if k = 4 then 40 :: (j ++ [41]) else if k = 5 then 64 :: Lib.itoa (wr n) else [40, 41]
namespace VT
mutual
def txt (F : Nat → List UInt8) : VT → List UInt8
  | node k n s l => topTxt F k n s (Lib.join (txts F l) [44]) l.length
def txts (F : Nat → List UInt8) : List VT → List (List UInt8)
  | [] => []
  | t :: l => txt F t :: txts F l
end
mutual
def noFl : VT → Bool
  | node k _ _ l => decide (k ≠ 1) && noFls l
def noFls : List VT → Bool
  | [] => true
  | t :: l => noFl t && noFls l
end
end VT
section
variable (F : Nat → List UInt8) (Fl : Bool) (w0 : World) (hT : Tab w0) (hF : Fl = true → ∀ (x : Nat) (w : World), x < 18446744073709551616 → Below w0.heap.size w0 w → Calls Tryz.prog 166 #[.int .u64 x] w fun e w' => e = .returned (.string (bytes (F x))) ∧ Below w.heap.size w w')
variable (k : Nat) (ih : ∀ (t : VT) (vt : Value) (w : World) (P : Nat → Prop) (d : Int), t.sz ≤ k → t.right d = true → (Fl = true ∨ t.noFl = true) → ValIs w P t vt → (∀ x, P x → x < w.heap.size) → Below w0.heap.size w0 w → (t.txt F).length ≤ 1000000 →
    Calls Tryz.prog 135 #[vt] w fun e w' => e = .returned (.string (bytes (t.txt F))) ∧ Below w.heap.size w w')
include hT ih in
end
end Go.Proofs.YtcpgbekcbaelpaaGreatDoor
/- Tame twice is once; boxes of four. -/
namespace Go.Proofs.YtcpgbekcbaelpaaGreatDoor
open Go.RowKit Go.Maps Wr
set_option linter.unusedVariables false
set_option linter.unusedSimpArgs false

namespace VT
end VT
theorem leaf_is (w : World) (P : Nat → Prop) (k n : Int) (s : ByteArray) (hk : (Lit.int .i64 k).wf = true) (hn : (Lit.int .i64 n).wf = true) (hs : s.size ≤ maxLen) : ValIs w P (.node k n s []) (.agg #[.int .i64 k, .int .i64 n, .string s, .slice none 0 0]) := by
  unfold ValIs
  exact ⟨none, 0, rfl, Nat.le_refl _, by unfold maxLen; omega, hs, hk, hn, fun _ => rfl, by unfold KidsAt; trivial⟩
theorem sz_max (s : ByteArray) (h : s.size ≤ 10) : s.size ≤ maxLen := by unfold maxLen; omega
end Go.Proofs.YtcpgbekcbaelpaaGreatDoor
/- The reference's reader: numbers and texts. -/
namespace Go.Proofs.YtcpgbekcbaelpaaGreatDoor
open Go.RowKit Go.Maps Wr
set_option linter.unusedVariables false

def InR (w : World) (p : Nat) (b : List UInt8) (e : Int) : Prop := w.heap[p]? = some (.cells #[.string (bytes b), .int .i64 e] 222 (0, 0))
def RNumEnd (w : World) (p : Nat) (b : List UInt8) (lo hi : Int) (e : Ending) (w' : World) : Prop :=
  (∃ n r, rdNum lo hi b = .ok (n, r) ∧ e = .returned (.int .i64 n) ∧ InR w' p r 0 ∧ Chg [p] w w') ∨ (∃ x, rdNum lo hi b = .error x ∧ x ≠ 0 ∧ e = .returned (.int .i64 0) ∧ InR w' p b x ∧ Chg [p] w w')
theorem rdNum_of {lo hi : Int} {b r : List UInt8} {u : Nat} (h : rdv 10 0 0 b = .ok (u, r)) : rdNum lo hi b = if zag u < lo ∨ hi < zag u then .error 4 else .ok (zag u, r) := by unfold rdNum; rw [h]
theorem rdNum_err {lo hi : Int} {b : List UInt8} {e : Int} (h : rdv 10 0 0 b = .error e) : rdNum lo hi b = .error e := by unfold rdNum; rw [h]
theorem rdv_cons (f k u : Nat) (x : UInt8) (b : List UInt8) : rdv (f + 1) k u (x :: b) = if k = 9 ∧ 1 < x.toNat then .error 2 else if 128 ≤ x.toNat then rdv f (k + 1) (u + x.toNat % 128 * 2 ^ (7 * k)) b else if 0 < k ∧ x.toNat = 0 then .error 2 else .ok (u + x.toNat * 2 ^ (7 * k), b) := by rw [rdv]
theorem hdr2_set {w : World} {p : Nat} {a b u : Value} {t : TypeId} {o : Nat} (h : w.heap[p]? = some (.cells #[a, b] t (0, 0))) : (w.setCell ⟨p, o, none⟩ u).heap[p]? = some (.cells (#[a, b].setIfInBounds o u) t (0, 0)) := by
  have hlt := lt_of_block h
  have h' : w.heap[p] = .cells #[a, b] t (0, 0) := by simpa [Array.getElem?_eq_getElem hlt] using h
  show (w.heap.modify p _)[p]? = _
  rw [Array.getElem?_eq_getElem (by simpa using hlt), Array.getElem_modify_self, h']
  rfl
theorem InR.err {w : World} {p : Nat} {b : List UInt8} {e : Int} (h : InR w p b e) (x : Int) : InR (w.setCell ⟨p, 1, none⟩ (.int .i64 x)) p b x := (hdr2_set h).trans rfl
theorem InR.left {w : World} {p : Nat} {b r : List UInt8} {e : Int} (h : InR w p b e) : InR (w.setCell ⟨p, 0, none⟩ (.string (bytes r))) p r e := (hdr2_set h).trans rfl
end Go.Proofs.YtcpgbekcbaelpaaGreatDoor
/- The reference's reader: texts, the end. -/
namespace Go.Proofs.YtcpgbekcbaelpaaGreatDoor
open Go.RowKit Go.Maps Wr
set_option linter.unusedVariables false

theorem RNumEnd.ok {w w' : World} {p : Nat} {b r : List UInt8} {lo hi n : Int} {e : Ending} (h : RNumEnd w p b lo hi e w') (hr : rdNum lo hi b = .ok (n, r)) : e = .returned (.int .i64 n) ∧ InR w' p r 0 ∧ Chg [p] w w' := by
  rcases h with ⟨n', r', h1, h2, h3, h4⟩ | ⟨x, h1, _⟩
  · rw [hr] at h1
    simp only [Except.ok.injEq, Prod.mk.injEq] at h1
    obtain ⟨rfl, rfl⟩ := h1
    exact ⟨h2, h3, h4⟩
  · rw [hr] at h1; cases h1
theorem RNumEnd.err {w w' : World} {p : Nat} {b : List UInt8} {lo hi x : Int} {e : Ending} (h : RNumEnd w p b lo hi e w') (hr : rdNum lo hi b = .error x) : x ≠ 0 ∧ e = .returned (.int .i64 0) ∧ InR w' p b x ∧ Chg [p] w w' := by
  rcases h with ⟨n', r', h1, _⟩ | ⟨x', h1, h2, h3, h4, h5⟩
  · rw [hr] at h1; cases h1
  · rw [hr] at h1
    simp only [Except.error.injEq] at h1
    subst h1
    exact ⟨h2, h3, h4, h5⟩
end Go.Proofs.YtcpgbekcbaelpaaGreatDoor
/- The program's reader: the small calls. -/
namespace Go.Proofs.YtcpgbekcbaelpaaGreatDoor
open Go.RowKit Go.Maps Wr
set_option linter.unusedVariables false
variable {M : Nat}

def BytesAt (M : Nat) (w : World) (p : Nat) (v : Value) (b : List UInt8) : Prop :=
  ∃ ao cap, v = .slice ao b.length cap ∧ b.length ≤ cap ∧ cap ≤ maxLen ∧ ∀ j (h : j < b.length), ∃ g o, ao = some ⟨g, o, none⟩ ∧ g ≠ p ∧ (g < M ∧ M ≤ w.heap.size) ∧ w.cell? ⟨g, o + j, none⟩ = some (.int .u8 ((b[j]).toNat : Int))
theorem BytesAt.chg {w w' : World} {p : Nat} {v : Value} {b : List UInt8} (h : BytesAt M w p v b) (hc : Chg [p] w w') : BytesAt M w' p v b := by
  obtain ⟨ao, cap, h1, h2, h3, h4⟩ := h
  refine ⟨ao, cap, h1, h2, h3, fun j hj => ?_⟩
  obtain ⟨g, o, e1, e2, e3, e4⟩ := h4 j hj
  exact ⟨g, o, e1, e2, ⟨e3.1, Nat.le_trans e3.2 hc.size⟩, (hc.cell (p := ⟨g, o + j, none⟩) (Nat.lt_of_lt_of_le e3.1 e3.2) (by simpa using e2)).trans e4⟩
def InW (M : Nat) (w : World) (p : Nat) (b : List UInt8) (e : Int) : Prop :=
  ∃ v, w.heap[p]? = some (.cells #[v, .int .i64 e] 214 (0, 0)) ∧ BytesAt M w p v b
theorem inw_cells {w : World} {p : Nat} {b : List UInt8} {e : Int} (h : InW M w p b e) : ∃ ao cap, w.cell? ⟨p, 0, none⟩ = some (.slice ao b.length cap) ∧ w.cell? ⟨p, 1, none⟩ = some (.int .i64 e) ∧ (∀ j, w.frozen? ⟨p, j, none⟩ = false) ∧ b.length ≤ cap ∧ cap ≤ maxLen ∧
    ∀ j (h : j < b.length), ∃ g o, ao = some ⟨g, o, none⟩ ∧ g ≠ p ∧ (g < M ∧ M ≤ w.heap.size) ∧ w.cell? ⟨g, o + j, none⟩ = some (.int .u8 ((b[j]).toNat : Int)) := by
  obtain ⟨v, hz, ao, cap, rfl, h2, h3, h4⟩ := h
  exact ⟨ao, cap, by simp [World.cell?, hz], by simp [World.cell?, hz], fun j => by simp [World.frozen?, hz], h2, h3, h4⟩
theorem InW.err {w : World} {p : Nat} {b : List UInt8} {e : Int} (h : InW M w p b e) (x : Int) : InW M (w.setCell ⟨p, 1, none⟩ (.int .i64 x)) p b x ∧ Chg [p] w (w.setCell ⟨p, 1, none⟩ (.int .i64 x)) := by
  obtain ⟨v, hz, hb⟩ := h
  have hc : Chg [p] w (w.setCell ⟨p, 1, none⟩ (.int .i64 x)) := Chg.setCell (p := ⟨p, 1, none⟩) (Chg.refl [p] w) (.inl (by simp)) _
  exact ⟨⟨v, (hdr2_set hz).trans rfl, hb.chg hc⟩, hc⟩

theorem err_any (p : Nat) (b : List UInt8) (x : Int) (w : World) (h : InW M w p b x) : Calls Tryz.prog 114 #[.pointer (some ⟨p, 0, none⟩)] w fun e w' => e = .returned (.int .i64 x) ∧ w = w' := by
  obtain ⟨ao, cap, c0, c1, f0, _⟩ := inw_cells h
  clear h
  go_enter Tryz.func114, Tryz.ntmps114
  go_wp2
  go_ret
  exact ⟨rfl, rfl⟩
theorem fail_any (p : Nat) (b : List UInt8) (x : Int) (w : World) (h : InW M w p b 0) : Calls Tryz.prog 113 #[.pointer (some ⟨p, 0, none⟩), .int .i64 x] w fun e w' => e = .returned (.tuple #[]) ∧ InW M w' p b x ∧ Chg [p] w w' := by
  have H := Lib.hid h
  obtain ⟨ao, cap, c0, c1, f0, _⟩ := inw_cells h
  clear h
  go_enter Tryz.func113, Tryz.ntmps113
  go_wp2
  go_end0
  exact ⟨rfl, H.out.err x⟩
theorem fail_past (p : Nat) (b : List UInt8) (x y : Int) (w : World) (h : InW M w p b y) (hy : y ≠ 0) : Calls Tryz.prog 113 #[.pointer (some ⟨p, 0, none⟩), .int .i64 x] w fun e w' => e = .returned (.tuple #[]) ∧ w = w' := by
  have hq : (y == 0) = false := by simpa using hy
  obtain ⟨ao, cap, c0, c1, f0, _⟩ := inw_cells h
  clear h hy
  go_enter Tryz.func113, Tryz.ntmps113
  go_wp2
  go_end0
  exact ⟨rfl, rfl⟩
set_option maxRecDepth 100000 in
theorem end_any (p : Nat) (b : List UInt8) (x : Int) (w : World) (h : InW M w p b x) : Calls Tryz.prog 115 #[.pointer (some ⟨p, 0, none⟩)] w fun e w' => e = .returned (.int .i64 (if x = 0 ∧ b ≠ [] then 2 else x)) ∧ Chg [p] w w' := by
  have H := Lib.hid h
  obtain ⟨ao, cap, c0, c1, f0, _, h63, _⟩ := inw_cells h
  clear h
  unfold maxLen at h63
  by_cases hb : b = []
  · subst hb
    rw [if_neg (by simp)]
    have hl : ¬ (0 : Int) < ((([] : List UInt8).length : Nat) : Int) := by simp
    go_enter Tryz.func115, Tryz.ntmps115
    go_wp2_with (go_at_call 114; refine (err_any p [] x _ H.out).mono ?_; rintro e w' ⟨rfl, rfl⟩)
    go_ret
    exact ⟨rfl, Chg.refl _ _⟩
  · have hl : (0 : Int) < ((b.length : Nat) : Int) := by cases b; exact absurd rfl hb; simp
    by_cases hx : x = 0
    · subst hx
      rw [if_pos ⟨rfl, hb⟩]
      go_enter Tryz.func115, Tryz.ntmps115
      go_wp2_with (first
        | (go_at_call 113; refine (fail_any p b 2 _ H.out).mono ?_; rintro e w5 ⟨rfl, hi, hc⟩)
        | (go_at_call 114; refine (err_any p b 2 _ hi).mono ?_; rintro e w' ⟨rfl, rfl⟩))
      go_ret
      exact ⟨rfl, hc⟩
    · rw [if_neg (fun h => hx h.1)]
      go_enter Tryz.func115, Tryz.ntmps115
      go_wp2_with (first
        | (go_at_call 113; refine (fail_past p b 2 x _ H.out hx).mono ?_; rintro e w' ⟨rfl, rfl⟩)
        | (go_at_call 114; refine (err_any p b x _ H.out).mono ?_; rintro e w' ⟨rfl, rfl⟩))
      go_ret
      exact ⟨rfl, Chg.refl _ _⟩
end Go.Proofs.YtcpgbekcbaelpaaGreatDoor
/- The program's reader: a number's bits. -/
namespace Go.Proofs.YtcpgbekcbaelpaaGreatDoor
open Go.RowKit Go.Maps Wr
set_option linter.unusedVariables false
variable {M : Nat}

theorem and_127 (c : UInt8) : bits .and .u8 (c.toNat : Int) 127 = (c.toNat : Int) % 128 := by
  show IntKind.u8.wrap (((BitVec.ofInt 8 (c.toNat : Int) &&& BitVec.ofInt 8 127).toNat : Nat) : Int) = _
  rw [BitVec.ofInt_natCast, BitVec.toNat_and, BitVec.toNat_ofNat, show (BitVec.ofInt 8 127).toNat = 127 by decide, IntKind.wrap_u8]
  have key : ∀ x : Nat, x < 256 → (x &&& 127) = x % 128 := by decide +kernel
  have := c.toNat_lt
  rw [key _ (by omega)]
  omega
theorem u64_or_seven (x y k : Nat) (hx : x < 2 ^ (7 * k)) (hk : k ≤ 9) (h : x + y * 2 ^ (7 * k) < 18446744073709551616) : bits .or .u64 (x : Int) ((y * 2 ^ (7 * k) : Nat) : Int) = ((x + y * 2 ^ (7 * k) : Nat) : Int) := by
  rw [u64_or_nat _ _ (by omega) (by omega), Nat.or_comm, nat_join (7 * k) _ x (Nat.mul_mod_left _ _) hx, Nat.add_comm]
def RawEnd (w : World) (b : List UInt8) (e : Ending) (w' : World) : Prop :=
  (∃ u r, rdv 10 0 0 b = .ok (u, r) ∧ e = .returned (.tuple #[.int .u64 (u : Nat), .int .i64 ((b.length - r.length : Nat) : Int), .int .i64 0]) ∧ w = w') ∨ (∃ x, rdv 10 0 0 b = .error x ∧ x ≠ 0 ∧ e = .returned (.tuple #[.int .u64 0, .int .i64 0, .int .i64 x]) ∧ w = w')
def RawLoop (b : List UInt8) (w : World) (k : Nat) (s5 s8 : Value) (wr : World) : Prop :=
  wr = w ∧ ∃ (i u : Nat), s5 = .int .u64 (u : Nat) ∧ s8 = .int .i64 (i : Nat) ∧ i + k = 10 ∧ i < 10 ∧ i ≤ b.length ∧ u < 2 ^ (7 * i) ∧ rdv 10 0 0 b = rdv k i u (b.drop i)

set_option maxRecDepth 100000 in
set_option maxHeartbeats 1600000 in
theorem raw_any (p : Nat) (b : List UInt8) (w : World) (h : InW M w p b 0) (hl : b.length ≤ 1000000) : Calls Tryz.prog 149 #[.pointer (some ⟨p, 0, none⟩)] w (RawEnd w b) := by
  obtain ⟨ao, cap, c0, c1, f0, hlc, h63, hcell⟩ := inw_cells h
  have HCELL := Lib.hid hcell
  unfold maxLen at h63
  clear h hcell
  go_enter Tryz.func149, Tryz.ntmps149
  go_wp2
  have HL : Hid (RawLoop b w 10 (.int .u64 0) (.int .i64 0) w) := ⟨rfl, 0, 0, rfl, rfl, rfl, by omega, by omega, by simp, rfl⟩
  go_loopg [5, 6, 7, 8] 10 (fun k s5 _ _ s8 wr => RawLoop b w k s5 s8 wr)
  case atStart => exact HL.out
  case round =>
    clear HL
    obtain ⟨rfl, i, u, rfl, rfl, hik, h10, hib, hu, hr⟩ := hrel
    have HR := Lib.hid hr
    have HU := Lib.hid hu
    clear hr hu
    have g2 : (i : Int) < 10 := by omega
    have g3 : (0 : Int) ≤ (i : Int) := by omega
    by_cases hlt : i < b.length
    · obtain ⟨g, o, rfl, hgp, hgs, hc⟩ := HCELL.out i hlt
      have g1 : (i : Int) < (b.length : Int) := by omega
      have g1' : ((i : Int) == (b.length : Int)) = false := by simp; omega
      obtain ⟨f, rfl⟩ : ∃ f, gk = f + 1 := ⟨gk - 1, by omega⟩
      obtain ⟨x, hx⟩ : ∃ x, x = b[i] := ⟨_, rfl⟩
      rw [← hx] at hc
      have HST : Hid (rdv 10 0 0 b = _) := HR.out.trans (by rw [List.drop_eq_getElem_cons hlt, rdv_cons, ← hx])
      clear hx
      have hc2 : (x.toNat : Int) < 256 := by have := x.toNat_lt; omega
      have hand := and_127 x
      by_cases h9 : i = 9
      · subst h9
        by_cases h1x : 1 < x.toNat
        · have g1x : (1 : Int) < (x.toNat : Int) := by omega
          have he : Hid (rdv 10 0 0 b = .error 2) := by
            have := HST.out
            rw [if_pos (by omega)] at this
            exact this
          go_wp2
          refine bodyPost_ret (v := .tuple #[.int .u64 0, .int .i64 0, .int .i64 2]) (by simp [results, Tryz.results149, go_sem]) rfl ?_
          exact .inr ⟨2, he.out, by decide, rfl, rfl⟩
        · have g1x : ¬ (1 : Int) < (x.toNat : Int) := by omega
          have g128 : (x.toNat : Int) < 128 := by omega
          by_cases hz : x.toNat = 0
          · have gz : ((x.toNat : Int) == 0) = true := by rw [hz]; rfl
            have he : Hid (rdv 10 0 0 b = .error 2) := by
              have := HST.out
              rw [if_neg (by omega), if_neg (by omega), if_pos (by omega)] at this
              exact this
            go_wp2
            refine bodyPost_ret (v := .tuple #[.int .u64 0, .int .i64 0, .int .i64 2]) (by simp [results, Tryz.results149, go_sem]) rfl ?_
            exact .inr ⟨2, he.out, by decide, rfl, rfl⟩
          · have hx1 : x.toNat = 1 := by omega
            have gz : ((x.toNat : Int) == 0) = false := by rw [hx1]; rfl
            have hu9 : u < 9223372036854775808 := by have := HU.out; simpa using this
            obtain ⟨u', hu'⟩ : ∃ u', u' = u + 9223372036854775808 := ⟨_, rfl⟩
            have he : Hid (rdv 10 0 0 b = .ok (u', b.drop (9 + 1))) := by
              have := HST.out
              rw [if_neg (by omega), if_neg (by omega), if_neg (by omega), hx1] at this
              rw [hu']
              show rdv 10 0 0 b = _
              simpa using this
            have hW : ∀ v : Int, v = (u : Int) → bits .or .u64 v (IntKind.u64.wrap ((x.toNat : Int) % 128 * 9223372036854775808)) = (u' : Int) := fun v hv => by
              rw [hv, hx1]
              have := u64_or_seven u 1 9 (by omega) (by omega) (by omega)
              rw [hu']
              exact this
            have hW9 : ∀ v : Int, v = (u : Int) → bits .or .u64 v ((x.toNat : Int) % 128 * 9223372036854775808) = (u' : Int) := fun v hv => by
              rw [← hW v hv, hx1]
              rfl
            clear hu' hu9 hx1 hz h1x
            go_wp2
            refine bodyPost_ret (v := .tuple #[.int .u64 (u' : Nat), .int .i64 ((9 + 1 : Nat) : Int), .int .i64 0]) (by simp [results, Tryz.results149, go_sem]) rfl ?_
            exact .inl ⟨u', b.drop (9 + 1), he.out, by rw [List.length_drop, show b.length - (b.length - (9 + 1)) = 9 + 1 by omega], rfl⟩
      · have g9 : ¬ (i : Int) = 9 := by omega
        have hu63 : u + x.toNat % 128 * 2 ^ (7 * i) < 2 ^ (7 * (i + 1)) := by
          have h1 := HU.out
          have h2 : x.toNat % 128 < 128 := Nat.mod_lt _ (by omega)
          have h3 : (x.toNat % 128 + 1) * 2 ^ (7 * i) ≤ 128 * 2 ^ (7 * i) := Nat.mul_le_mul_right _ (by omega)
          rw [Nat.add_mul] at h3
          rw [show 7 * (i + 1) = 7 * i + 7 by omega, Nat.pow_add]
          omega
        have hp63 : (2 : Nat) ^ (7 * (i + 1)) ≤ 2 ^ 63 := Nat.pow_le_pow_right (by omega) (by omega)
        obtain ⟨u', hu'⟩ : ∃ u', u' = u + x.toNat % 128 * 2 ^ (7 * i) := ⟨_, rfl⟩
        have hW : ∀ v : Int, v = (u : Int) → bits .or .u64 v (IntKind.u64.wrap ((x.toNat : Int) % 128 * 2 ^ (7 * i))) = (u' : Int) := fun v hv => by
          rw [hv]
          have e : ((x.toNat : Int) % 128 * 2 ^ (7 * i)) = ((x.toNat % 128 * 2 ^ (7 * i) : Nat) : Int) := by push_cast; rfl
          have e2 : IntKind.u64.wrap ((x.toNat : Int) % 128 * 2 ^ (7 * i)) = ((x.toNat % 128 * 2 ^ (7 * i) : Nat) : Int) := by
            rw [e]
            show ((x.toNat % 128 * 2 ^ (7 * i) : Nat) : Int) % 18446744073709551616 = _
            omega
          rw [e2, u64_or_seven u _ i HU.out (by omega) (by omega), hu']
        have HU3 : Hid (u' < 2 ^ (7 * (i + 1))) := by rw [hu']; exact hu63
        clear hu63 hp63
        by_cases h128 : 128 ≤ x.toNat
        · have g128 : ¬ (x.toNat : Int) < 128 := by omega
          have he : Hid (rdv 10 0 0 b = rdv f (i + 1) u' (b.drop (i + 1))) := by
            have := HST.out
            rw [if_neg (by omega), if_pos h128, ← hu'] at this
            exact this
          clear hu'
          go_wp2
          go_roundg f
          case measure => omega
          case rel => exact ⟨rfl, i + 1, u', rfl, by go_num, by omega, by omega, by omega, HU3.out, he.out⟩
        · have g128 : (x.toNat : Int) < 128 := by omega
          by_cases hz : 0 < i ∧ x.toNat = 0
          · have gz : ((x.toNat : Int) == 0) = true := by rw [hz.2]; rfl
            have gi : (0 : Int) < (i : Int) := by omega
            have he : Hid (rdv 10 0 0 b = .error 2) := by
              have := HST.out
              rw [if_neg (by omega), if_neg h128, if_pos hz] at this
              exact this
            clear hu'
            go_wp2
            refine bodyPost_ret (v := .tuple #[.int .u64 0, .int .i64 0, .int .i64 2]) (by simp [results, Tryz.results149, go_sem]) rfl ?_
            exact .inr ⟨2, he.out, by decide, rfl, rfl⟩
          · have hxm : x.toNat % 128 = x.toNat := Nat.mod_eq_of_lt (by omega)
            have he : Hid (rdv 10 0 0 b = .ok (u', b.drop (i + 1))) := by
              have := HST.out
              rw [if_neg (by omega), if_neg h128, if_neg hz] at this
              rw [hu', hxm]
              exact this
            clear hu' hxm
            by_cases hi0 : 0 < i
            · have gi : (0 : Int) < (i : Int) := by omega
              have gz : ((x.toNat : Int) == 0) = false := by simp; omega
              clear hz
              go_wp2
              refine bodyPost_ret (v := .tuple #[.int .u64 (u' : Nat), .int .i64 ((i + 1 : Nat) : Int), .int .i64 0]) (by simp [results, Tryz.results149, go_sem]) rfl ?_
              exact .inl ⟨u', b.drop (i + 1), he.out, by rw [List.length_drop, show b.length - (b.length - (i + 1)) = i + 1 by omega], rfl⟩
            · have gi : ¬ (0 : Int) < (i : Int) := by omega
              clear hz
              go_wp2
              all_goals
                refine bodyPost_ret (v := .tuple #[.int .u64 (u' : Nat), .int .i64 ((i + 1 : Nat) : Int), .int .i64 0]) (by simp [results, Tryz.results149, go_sem]) rfl ?_
                exact .inl ⟨u', b.drop (i + 1), he.out, by rw [List.length_drop, show b.length - (b.length - (i + 1)) = i + 1 by omega], rfl⟩
    · have e : i = b.length := by omega
      have g1' : ((i : Int) == (b.length : Int)) = true := by simp; omega
      obtain ⟨f, rfl⟩ : ∃ f, gk = f + 1 := ⟨gk - 1, by omega⟩
      have he : Hid (rdv 10 0 0 b = .error 3) := by
        have := HR.out
        rw [List.drop_eq_nil_of_le (by omega)] at this
        exact this
      go_wp2
      refine bodyPost_ret (v := .tuple #[.int .u64 0, .int .i64 0, .int .i64 3]) (by simp [results, Tryz.results149, go_sem]) rfl ?_
      exact .inr ⟨3, he.out, by decide, rfl, rfl⟩
end Go.Proofs.YtcpgbekcbaelpaaGreatDoor
/- The program's reader: numbers. -/
namespace Go.Proofs.YtcpgbekcbaelpaaGreatDoor
open Go.RowKit Go.Maps Wr
set_option linter.unusedVariables false
variable {M : Nat}

theorem RawEnd.ok {w w' : World} {b r : List UInt8} {u k : Nat} {e : Ending} (h : RawEnd w b e w') (hr : rdv 10 0 0 b = .ok (u, r)) (hk : b.length - r.length = k) : e = .returned (.tuple #[.int .u64 (u : Nat), .int .i64 (k : Nat), .int .i64 0]) ∧ w = w' := by
  subst hk
  rcases h with ⟨u', r', h1, h2, h3⟩ | ⟨x, h1, _⟩
  · rw [hr] at h1
    simp only [Except.ok.injEq, Prod.mk.injEq] at h1
    obtain ⟨rfl, rfl⟩ := h1
    exact ⟨h2, h3⟩
  · rw [hr] at h1; cases h1
theorem RawEnd.err {w w' : World} {b : List UInt8} {x : Int} {e : Ending} (h : RawEnd w b e w') (hr : rdv 10 0 0 b = .error x) : x ≠ 0 ∧ e = .returned (.tuple #[.int .u64 0, .int .i64 0, .int .i64 x]) ∧ w = w' := by
  rcases h with ⟨n', r', h1, _⟩ | ⟨x', h1, h2, h3, h4⟩
  · rw [hr] at h1; cases h1
  · rw [hr] at h1
    simp only [Except.error.injEq] at h1
    subst h1
    exact ⟨h2, h3, h4⟩
def WNumEnd (M : Nat) (w : World) (p : Nat) (b : List UInt8) (lo hi : Int) (e : Ending) (w' : World) : Prop :=
  (∃ n r, rdNum lo hi b = .ok (n, r) ∧ e = .returned (.int .i64 n) ∧ InW M w' p r 0 ∧ Chg [p] w w') ∨ (∃ x, rdNum lo hi b = .error x ∧ x ≠ 0 ∧ e = .returned (.int .i64 0) ∧ InW M w' p b x ∧ Chg [p] w w')
theorem rdv_lt : ∀ (f k u : Nat) (b : List UInt8) (v : Nat) (r : List UInt8), f + k = 10 → u < 2 ^ (7 * k) → rdv f k u b = .ok (v, r) → v < 18446744073709551616
  | 0, k, u, b, v, r, _, _, h => by simp [rdv] at h
  | f + 1, k, u, [], v, r, _, _, h => by simp [rdv] at h
  | f + 1, k, u, x :: b, v, r, hf, hu, h => by
    rw [rdv_cons] at h
    have hx := x.toNat_lt
    split at h
    · cases h
    · rename_i h9
      by_cases hk : k = 9
      · subst hk
        have hx1 : x.toNat ≤ 1 := by omega
        rw [if_neg (by omega)] at h
        split at h
        · cases h
        · simp only [Except.ok.injEq, Prod.mk.injEq] at h
          have : (2 : Nat) ^ (7 * 9) = 9223372036854775808 := by decide
          rw [this] at h hu
          have h3 : x.toNat * 9223372036854775808 ≤ 1 * 9223372036854775808 := Nat.mul_le_mul_right _ hx1
          omega
      · have hp63 : (2 : Nat) ^ (7 * (k + 1)) ≤ 2 ^ 63 := Nat.pow_le_pow_right (by omega) (by omega)
        have hp : (2 : Nat) ^ (7 * (k + 1)) = 2 ^ (7 * k) * 128 := by rw [show 7 * (k + 1) = 7 * k + 7 by omega, Nat.pow_add]
        split at h
        · have h3 : (x.toNat % 128 + 1) * 2 ^ (7 * k) ≤ 128 * 2 ^ (7 * k) := Nat.mul_le_mul_right _ (by omega)
          rw [Nat.add_mul] at h3
          exact rdv_lt f (k + 1) _ b v r (by omega) (by omega) h
        · split at h
          · cases h
          · simp only [Except.ok.injEq, Prod.mk.injEq] at h
            have h3 : (x.toNat + 1) * 2 ^ (7 * k) ≤ 128 * 2 ^ (7 * k) := Nat.mul_le_mul_right _ (by omega)
            rw [Nat.add_mul] at h3
            omega
theorem rdv_bits {b r : List UInt8} {u : Nat} (h : rdv 10 0 0 b = .ok (u, r)) : u < 18446744073709551616 ∧ ∃ k, r = b.drop k ∧ k ≤ b.length ∧ 0 < k ∧ b.length - r.length = k := by
  refine ⟨rdv_lt 10 0 0 b u r rfl (by omega) h, ?_⟩
  obtain ⟨v, h1, h2, _⟩ := rdv_sound 10 0 0 b u r h
  have hv : 0 < (var v).length := by
    by_cases h : v < 128
    · rw [var_small h]; simp
    · rw [var_big (by omega)]; simp
  refine ⟨(var v).length, by rw [h2, List.drop_left], by rw [h2, List.length_append]; omega, hv, by rw [h2, List.length_append]; omega⟩
theorem InW.left {w : World} {p : Nat} {b : List UInt8} {e : Int} (h : InW M w p b e) (k : Nat) (hk : k ≤ b.length) {ao : Option Addr} {cap : Nat} (hv : w.cell? ⟨p, 0, none⟩ = some (.slice ao b.length cap))
    {v : Value} (hvv : v = .slice (ao.map (fun x => x.add k)) (b.length - k) (cap - k) ∨ (v = .slice ao (b.length - k) 0 ∧ cap = k)) : InW M (w.setCell ⟨p, 0, none⟩ v) p (b.drop k) e ∧ Chg [p] w (w.setCell ⟨p, 0, none⟩ v) := by
  obtain ⟨v0, hz, ao', cap', rfl, h2, h3, h4⟩ := h
  have hc : Chg [p] w (w.setCell ⟨p, 0, none⟩ v) := Chg.setCell (p := ⟨p, 0, none⟩) (Chg.refl [p] w) (.inl (by simp)) _
  have e0 : w.cell? ⟨p, 0, none⟩ = some (.slice ao' b.length cap') := by simp [World.cell?, hz]
  rw [hv] at e0
  simp only [Option.some.injEq, Value.slice.injEq, true_and] at e0
  obtain ⟨rfl, rfl⟩ := e0
  refine ⟨⟨v, (hdr2_set hz).trans rfl, ?_⟩, hc⟩
  refine BytesAt.chg ?_ hc
  rcases hvv with rfl | ⟨rfl, rfl⟩
  · refine ⟨ao.map (fun x => x.add k), cap - k, by rw [List.length_drop], by rw [List.length_drop]; omega, by omega, fun j hj => ?_⟩
    rw [List.length_drop] at hj
    obtain ⟨g, o, e1, e2, e3, e4⟩ := h4 (k + j) (by omega)
    refine ⟨g, o + k, by rw [e1]; unfold Addr.add; by_cases h0 : k = 0 <;> simp [h0], e2, e3, ?_⟩
    rw [List.getElem_drop, Nat.add_assoc]
    exact e4
  · refine ⟨ao, 0, by rw [List.length_drop], by rw [List.length_drop]; omega, by unfold maxLen; omega, fun j hj => ?_⟩
    rw [List.length_drop] at hj
    omega
theorem zag_xor (u : Nat) (hu : u < 18446744073709551616) : bits .xor .i64 ((u : Int) / 2) (wrap64 (-wrap64 (bits .and .u64 (u : Int) 1))) = zag u := by
  have h1 : bits .and .u64 (u : Int) 1 = ((u % 2 : Nat) : Int) := by
    show IntKind.u64.wrap (((BitVec.ofInt 64 (u : Int) &&& BitVec.ofInt 64 1).toNat : Nat) : Int) = _
    rw [BitVec.ofInt_natCast, BitVec.toNat_and, BitVec.toNat_ofNat, show (BitVec.ofInt 64 1).toNat = 1 by decide, Nat.and_one_is_mod]
    show (((u % 2 ^ 64 % 2 : Nat) : Int)) % 18446744073709551616 = _
    omega
  rw [h1]
  have e : (u : Int) / 2 = ((u / 2 : Nat) : Int) := by omega
  rw [e]
  by_cases h : u % 2 = 0
  · rw [h, show wrap64 (-wrap64 ((0 : Nat) : Int)) = 0 by simp [wrap64]]
    show IntKind.i64.wrap (((BitVec.ofInt 64 ((u / 2 : Nat) : Int) ^^^ BitVec.ofInt 64 0).toNat : Nat) : Int) = _
    rw [show BitVec.ofInt 64 0 = 0#64 by decide, BitVec.xor_zero, BitVec.ofInt_natCast, BitVec.toNat_ofNat]
    unfold zag
    rw [if_pos h, Nat.mod_eq_of_lt (by omega)]
    have : IntKind.i64.wrap (((u / 2 : Nat) : Int)) = ((u / 2 : Nat) : Int) := by
      rw [IntKind.wrap_i64]
      omega
    exact this
  · rw [show u % 2 = 1 by omega, show wrap64 (-wrap64 ((1 : Nat) : Int)) = -1 by simp [wrap64]]
    show IntKind.i64.wrap (((BitVec.ofInt 64 ((u / 2 : Nat) : Int) ^^^ BitVec.ofInt 64 (-1)).toNat : Nat) : Int) = _
    rw [show BitVec.ofInt 64 (-1) = BitVec.allOnes 64 by decide, BitVec.xor_allOnes, BitVec.ofInt_natCast, BitVec.toNat_not, BitVec.toNat_ofNat]
    unfold zag
    rw [if_neg h, Nat.mod_eq_of_lt (by omega)]
    rw [IntKind.wrap_i64]
    omega
set_option maxRecDepth 100000 in
set_option maxHeartbeats 1600000 in
theorem wNum_read (p : Nat) (b : List UInt8) (lo hi : Int) (w : World) (h : InW M w p b 0) (hl : b.length ≤ 1000000) : Calls Tryz.prog 111 #[.pointer (some ⟨p, 0, none⟩), .int .i64 lo, .int .i64 hi] w (WNumEnd M w p b lo hi) := by
  have H := Lib.hid h
  have HN := Lib.hid (raw_any p b w h hl)
  obtain ⟨ao, cap, c0, c1, f0, hlc, h63, hcell⟩ := inw_cells h
  have HCELL := Lib.hid hcell
  unfold maxLen at h63
  clear h hcell
  cases hr : rdv 10 0 0 b with
  | error x =>
    have HR := Lib.hid hr
    clear hr
    go_enter Tryz.func111, Tryz.ntmps111
    go_wp2_with (first
      | (go_at_call 114; refine (err_any p b 0 _ H.out).mono ?_; rintro e w5 ⟨rfl, rfl⟩)
      | (go_at_call 149; refine HN.out.mono ?_; intro e w5 h5; obtain ⟨hx, rfl, rfl⟩ := h5.err HR.out; have HX := Lib.hid hx; have hq : (x == 0) = false := (by simpa using hx); clear h5)
      | (go_at_call 113; refine (fail_any p b x _ H.out).mono ?_; rintro e w5 ⟨rfl, hi, hc⟩; have HIN := Lib.hid hi; have HC := Lib.hid hc; clear hi hc))
    go_ret
    exact .inr ⟨x, rdNum_err HR.out, HX.out, rfl, HIN.out, HC.out⟩
  | ok v =>
    obtain ⟨u, r⟩ := v
    have HR := Lib.hid hr
    obtain ⟨hu64, k, hrk, hkb, hk0, hkl⟩ := rdv_bits hr
    have HKL := Lib.hid hkl
    have HRK := Lib.hid hrk
    obtain ⟨n, hn⟩ : ∃ n, n = zag u := ⟨_, rfl⟩
    have HZ2 : Hid (zag u = n) := hn.symm
    have hX : ∀ v : Int, v = (u : Int) → bits .xor .i64 (v / 2) (wrap64 (-wrap64 (bits .and .u64 v 1))) = n := fun v hv => by rw [hv, zag_xor u hu64, hn]
    have HL2 := fun v hvv => H.out.left k hkb c0 (v := v) hvv
    have HLF := Lib.hid HL2
    clear hr hkl hrk HL2 hn
    go_enter Tryz.func111, Tryz.ntmps111
    go_wp2_with (first
      | (go_at_call 114; refine (err_any p b 0 _ H.out).mono ?_; rintro e w5 ⟨rfl, rfl⟩)
      | (go_at_call 149; refine HN.out.mono ?_; intro e w5 h5; obtain ⟨rfl, rfl⟩ := h5.ok HR.out HKL.out; clear h5)
      | (go_at_call 113; refine (fail_any p b 4 _ H.out).mono ?_; rintro e w5 ⟨rfl, hi, hc⟩; have HIN := Lib.hid hi; have HC := Lib.hid hc; clear hi hc))
    all_goals
      go_ret
      have hz2 := HZ2.out
      first
        | exact .inr ⟨4, by rw [rdNum_of HR.out, hz2, if_pos (by omega)], by decide, rfl, HIN.out, HC.out⟩
        | (obtain ⟨hi, hc⟩ := HLF.out _ (.inr ⟨rfl, by omega⟩); exact .inl ⟨n, r, by rw [rdNum_of HR.out, hz2, if_neg (by omega)], rfl, by rw [HRK.out]; exact hi, hc⟩)
        | (obtain ⟨hi, hc⟩ := HLF.out _ (.inl rfl); exact .inl ⟨n, r, by rw [rdNum_of HR.out, hz2, if_neg (by omega)], rfl, by rw [HRK.out]; exact hi, hc⟩)
theorem wNum_past (p : Nat) (b : List UInt8) (x lo hi : Int) (w : World) (h : InW M w p b x) (hx : x ≠ 0) : Calls Tryz.prog 111 #[.pointer (some ⟨p, 0, none⟩), .int .i64 lo, .int .i64 hi] w fun e w' => e = .returned (.int .i64 0) ∧ w = w' := by
  have hq : (x == 0) = false := by simpa using hx
  have H := Lib.hid h
  clear h
  go_enter Tryz.func111, Tryz.ntmps111
  go_wp2_with (go_at_call 114; refine (err_any p b x _ H.out).mono ?_; rintro e w5 ⟨rfl, rfl⟩)
  go_ret
  exact ⟨rfl, rfl⟩
end Go.Proofs.YtcpgbekcbaelpaaGreatDoor
/- The readers' contracts by functions: the reference's, the program's. -/
namespace Go.Proofs.YtcpgbekcbaelpaaGreatDoor
open Go.RowKit Go.Maps Wr
set_option linter.unusedVariables false
variable {M : Nat}

def NumFn (I : World → Nat → List UInt8 → Int → Prop) (w : World) (p : Nat) (a : Int × List UInt8 × Int) (e : Ending) (w' : World) : Prop := e = .returned (.int .i64 a.1) ∧ I w' p a.2.1 a.2.2 ∧ Chg [p] w w'
def StrFn (I : World → Nat → List UInt8 → Int → Prop) (w : World) (p : Nat) (a : List UInt8 × List UInt8 × Int) (e : Ending) (w' : World) : Prop := e = .returned (.string (bytes a.1)) ∧ I w' p a.2.1 a.2.2 ∧ Chg [p] w w'

theorem wNum_fn (p : Nat) (b : List UInt8) (x lo hi : Int) (w : World) (h : InW M w p b x) (hl : b.length ≤ 1000000) : Calls Tryz.prog 111 #[.pointer (some ⟨p, 0, none⟩), .int .i64 lo, .int .i64 hi] w (NumFn (InW M) w p (rn lo hi b x)) := by
  by_cases hx : x = 0
  · subst hx
    refine (wNum_read p b lo hi w h hl).mono ?_
    rintro e w' (⟨n, r, h1, h2, h3, h4⟩ | ⟨y, h1, _, h2, h3, h4⟩)
    · rw [rn_ok h1]; exact ⟨h2, h3, h4⟩
    · rw [rn_err h1]; exact ⟨h2, h3, h4⟩
  · refine (wNum_past p b x lo hi w h hx).mono ?_
    rintro e w' ⟨rfl, rfl⟩
    rw [rn_past hx]
    exact ⟨rfl, h, Chg.refl _ _⟩
theorem rs_err {hi n y : Int} {b r : List UInt8} {x : Int} (h : rn 0 hi b x = (n, r, y)) (hy : y ≠ 0) : rs hi b x = ([], r, y) := by unfold rs; rw [h]; simp only; rw [if_neg hy]
theorem rs_tail {hi n : Int} {b r : List UInt8} {x : Int} (h : rn 0 hi b x = (n, r, 0)) (hk : (r.length : Int) < n) : rs hi b x = ([], r, 3) := by unfold rs; rw [h]; simp only [if_true]; rw [if_pos hk]
theorem rs_ok {hi : Int} {k : Nat} {b r : List UInt8} {x : Int} (h : rn 0 hi b x = (((k : Nat) : Int), r, 0)) (hk : k ≤ r.length) : rs hi b x = (r.take k, r.drop k, 0) := by unfold rs; rw [h]; simp only [if_true]; rw [if_neg (by omega), Int.toNat_natCast]
theorem run_take {w : World} {p : Nat} {b : List UInt8} {e : Int} {ao : Option Addr} {cap : Nat} (h : InW M w p b e) (hv : w.cell? ⟨p, 0, none⟩ = some (.slice ao b.length cap)) (k c : Nat) (hk : k ≤ b.length) : (convert 44 9 (.slice ao k c)).run Tryz.prog w = .ok (.string (bytes (b.take k))) w := by
  obtain ⟨v0, hz, ao', cap', rfl, h2, h3, h4⟩ := h
  have e0 : w.cell? ⟨p, 0, none⟩ = some (.slice ao' b.length cap') := by simp [World.cell?, hz]
  rw [hv] at e0
  simp only [Option.some.injEq, Value.slice.injEq, true_and] at e0
  obtain ⟨rfl, rfl⟩ := e0
  have hl : (b.take k).length = k := by rw [List.length_take]; omega
  cases ao with
  | none =>
    have hb : b.take k = [] := by
      cases hb : b with
      | nil => simp
      | cons y l =>
        obtain ⟨g, o, e1, _⟩ := h4 0 (by rw [hb]; simp)
        cases e1
    rw [hb]
    exact run_convert_bytes_nil w 44 5 Tryz.underlying44 Tryz.underlying5 k c 9 Tryz.underlying9
  | some ad =>
    have := run_convert_bytes_back (P := Tryz.prog) w 44 9 5 ad c (b.take k) Tryz.underlying44 Tryz.underlying5 Tryz.underlying9 (fun j hj => by
      obtain ⟨g, o, e1, _, _, e4⟩ := h4 j (by rw [List.length_take] at hj; omega)
      cases e1
      rw [show (Addr.add ⟨g, o, none⟩ j) = ⟨g, o + j, none⟩ by unfold Addr.add; split <;> simp_all]
      rw [e4, List.getElem_take])
    rwa [hl] at this
set_option maxRecDepth 100000 in
set_option maxHeartbeats 1600000 in
theorem wStr_fn (p : Nat) (b : List UInt8) (x hi : Int) (w : World) (h : InW M w p b x) (hl : b.length ≤ 1000000) (hh : 0 ≤ hi) : Calls Tryz.prog 112 #[.pointer (some ⟨p, 0, none⟩), .int .i64 hi] w (StrFn (InW M) w p (rs hi b x)) := by
  have HN' := wNum_fn p b x 0 hi w h hl
  obtain ⟨n, r, y, hr⟩ : ∃ n r y, rn 0 hi b x = (n, r, y) := ⟨_, _, _, rfl⟩
  have hn := rn_count (lo := 0) (hi := hi) b x (by omega) hh
  have hrl := rn_le 0 hi b x
  rw [hr] at HN' hn hrl
  have HN := Lib.hid HN'
  have HR := Lib.hid hr
  obtain ⟨hn0, hn1⟩ := hn
  simp only at hn0 hn1 hrl
  clear HN' hr h hn1
  by_cases hy : y = 0
  · subst hy
    obtain ⟨k, rfl⟩ : ∃ k : Nat, n = (k : Int) := ⟨n.toNat, by omega⟩
    by_cases hk : r.length < k
    · have gk1 : (r.length : Int) < (k : Int) := by omega
      have he : Hid (rs hi b x = ([], r, 3)) := rs_tail HR.out (by omega)
      go_enter Tryz.func112, Tryz.ntmps112
      go_wp2_with (first
        | ((go_at_call 111; refine HN.out.mono ?_; rintro e w5 ⟨rfl, hin, hc⟩; replace hin : InW M w5 p r 0 := hin; have HIN := Lib.hid hin; have HC := Lib.hid hc; obtain ⟨ao, cap, c0, c1, f0, hlc, h63, _⟩ := inw_cells hin; unfold maxLen at h63; clear hin hc))
        | (go_at_call 114; refine (err_any p r 0 _ HIN.out).mono ?_; rintro e w6 ⟨rfl, rfl⟩)
        | (go_at_call 113; refine (fail_any p r 3 _ HIN.out).mono ?_; rintro e w6 ⟨rfl, hi6, hc6⟩; have HI6 := Lib.hid hi6; have HC6 := Lib.hid hc6; clear hi6 hc6))
      all_goals
        go_ret
        show StrFn _ _ _ _ _ _
        rw [he.out]
        exact ⟨rfl, HI6.out, HC.out.trans HC6.out (fun k hk => .inl hk)⟩
    · have gk1 : ¬ (r.length : Int) < (k : Int) := by omega
      have gk2 : (k : Int) ≤ (r.length : Int) := by omega
      have gk3 : (0 : Int) ≤ (k : Int) := by omega
      have he : Hid (rs hi b x = (r.take k, r.drop k, 0)) := rs_ok HR.out (by omega)
      go_enter Tryz.func112, Tryz.ntmps112
      go_wp2_with (first
        | ((go_at_call 111; refine HN.out.mono ?_; rintro e w5 ⟨rfl, hin, hc⟩; replace hin : InW M w5 p r 0 := hin; have HIN := Lib.hid hin; have HC := Lib.hid hc; obtain ⟨ao, cap, c0, c1, f0, hlc, h63, _⟩ := inw_cells hin; unfold maxLen at h63; have hcv := fun c => run_take hin c0 k c (by omega); clear hin hc))
        | (go_at_call 114; refine (err_any p r 0 _ HIN.out).mono ?_; rintro e w6 ⟨rfl, rfl⟩))
      all_goals
        go_ret
        show StrFn _ _ _ _ _ _
        rw [he.out]
        have hle : k ≤ r.length := by omega
        first
          | (obtain ⟨h1, h2⟩ := HIN.out.left k hle c0 (.inr ⟨rfl, by omega⟩); exact ⟨rfl, h1, HC.out.trans h2 (fun k hk => .inl hk)⟩)
          | (obtain ⟨h1, h2⟩ := HIN.out.left k hle c0 (.inl rfl); exact ⟨rfl, h1, HC.out.trans h2 (fun k hk => .inl hk)⟩)
  · have hq : (y == 0) = false := by simpa using hy
    have he : Hid (rs hi b x = ([], r, y)) := rs_err HR.out hy
    clear hn0
    go_enter Tryz.func112, Tryz.ntmps112
    go_wp2_with (first
      | ((go_at_call 111; refine HN.out.mono ?_; rintro e w5 ⟨rfl, hin, hc⟩; replace hin : InW M w5 p r y := hin; have HIN := Lib.hid hin; have HC := Lib.hid hc; obtain ⟨ao, cap, c0, c1, f0, hlc, h63, _⟩ := inw_cells hin; unfold maxLen at h63; clear hin hc))
      | (go_at_call 114; refine (err_any p r y _ HIN.out).mono ?_; rintro e w6 ⟨rfl, rfl⟩))
    all_goals
      go_ret
      show StrFn _ _ _ _ _ _
      rw [he.out]
      exact ⟨rfl, HIN.out, HC.out⟩
end Go.Proofs.YtcpgbekcbaelpaaGreatDoor
/- The reference's read: a value out of bytes. -/
namespace Go.Proofs.YtcpgbekcbaelpaaGreatDoor
open Go.RowKit Go.Maps Wr
set_option linter.unusedVariables false

theorem step_appz {w : World} {ops : Array Oper} {o : Oper} {a : Act} {K : Act → World → Prop} {Q : Exit → Act → World → Prop} {E : Prop} (hgd : o.guard = none) (s x : Operand)
    (ho : o.op = .call { callee := .builtin .append, args := #[s, x], argTypes := #[31, 31] }) {v : Value} {n : Nat} {xs news : List Value} (hs : a.eval s = v) (hr : RowZ w 33 4 v n xs) {ad : Addr} {c : Nat} (hx : a.eval x = .slice (some ad) 1 c)
    (hl : news.length = 4) (hnews : ∀ j u, news[j]? = some u → w.cell? (ad.add j) = some u) (h1 : ∀ u ∈ news, u.oneCell' = true) (h63 : n ≤ 1000000)
    (h : ∀ g cap w', RowZ w' 33 4 (.slice (some ⟨g, 0, none⟩) (n + 1) cap) (n + 1) (xs ++ news) → w.grownBy w' v.ownBlock → (v.ownBlock = some g ∨ g = w.heap.size) → K (a.put o.dst (.slice (some ⟨g, 0, none⟩) (n + 1) cap)) w') : if Region.wanted o (yielded ops a.tmps) = true then Oper.wp Tryz.prog o a w K Q else E := by
  obtain ⟨i0, hi, hz0, hz1, hz2⟩ := info_parts infoV
  exact step_append_lies w hgd s x 31 ho 0 33 i0 _ 4 56 Tryz.underlying31 hi hz0 hz1 hz2 rfl (by decide) v n xs hs hr ad 1 c news hx hl hnews h1 (by omega) (by unfold maxLen; omega) (by omega) (by omega) w.heap.size rfl (fun g cap w' a1 a2 a3 _ => h g cap w' a1 a2 a3)
theorem KRow.chg {w w' : World} {base : Nat} {v : Value} {l : List VT} {F : List Nat} (h : KRow w base v l) (hc : Chg F w w') (hF : ∀ k ∈ F, k < base) : KRow w' base v l := by
  obtain ⟨ps, h1, h2, h3, h4⟩ := h
  refine ⟨ps, h1, h2.chg hc (fun k hk hm => by have := h3 k hk; have := hF k hm; omega), h3, fun i t p ht hp => ?_⟩
  exact ((h4 i t p ht hp).chg hc (fun b hb => ⟨hb.2.1, fun hm => by have := hF b hm; omega⟩)).mono fun b hb => ⟨hb.1, Nat.lt_of_lt_of_le hb.2.1 hc.size, hb.2.2⟩
def RdEnd (I : World → Nat → List UInt8 → Int → Prop) (w : World) (p : Nat) (a : VT × List UInt8 × Int) (e : Ending) (w' : World) : Prop :=
  ∃ v, e = .returned v ∧ ValIs w' (fun b => w.heap.size ≤ b ∧ b < w'.heap.size) a.1 v ∧ I w' p a.2.1 a.2.2 ∧ Chg [p] w w'
def RdHead (I : World → Nat → List UInt8 → Int → Prop) (w : World) (p q : Nat) (h : Hd) (s6 : Value) (wx : World) : Prop :=
  s6 = .int .i64 h.m ∧ wx.heap[q]? = some (.cells #[.int .i64 h.k, .int .i64 h.n, .string (bytes h.s), .slice none 0 0] 33 (0, 0)) ∧ I wx p h.r h.x ∧ Chg [p, q] w wx

theorem InR.chg {w w' : World} {p : Nat} {b : List UInt8} {x : Int} {F : List Nat} (h : InR w p b x) (hc : Chg F w w') (hF : p ∉ F) : InR w' p b x := (hc.block p (lt_of_block h) hF).trans h
theorem InR.lt {w : World} {p : Nat} {b : List UInt8} {x : Int} (h : InR w p b x) : p < w.heap.size := lt_of_block h

theorem hd_wf (b : List UInt8) : 0 ≤ (hd b).k ∧ (hd b).k ≤ 6 ∧ -4611686018427387904 ≤ (hd b).n ∧ (hd b).n ≤ 4611686018427387903 ∧ (hd b).s.length ≤ b.length := by
  have h0 := rn_in (lo := 0) (hi := 6) b 0 (by omega) (by omega)
  have h1 := rn_le 0 6 b 0
  unfold hd
  generalize rn 0 6 b 0 = q at h0 h1 ⊢
  unfold hdOf
  split
  · have := rn_in (lo := -4611686018427387904) (hi := 4611686018427387903) q.2.1 q.2.2 (by omega) (by omega)
    simp only [List.length_nil]; omega
  · split
    · have := rs_len 4096 q.2.1 q.2.2
      simp only; omega
    · split
      · have := rn_in (lo := 0) (hi := 255) q.2.1 q.2.2 (by omega) (by omega)
        simp only [List.length_nil]; omega
      · split
        · simp only [List.length_nil]; omega
        · split
          · have := rn_count (lo := 1) (hi := 1099511627776) q.2.1 q.2.2 (by omega) (by omega)
            simp only [List.length_nil]; omega
          · simp only [List.length_nil]; omega
def RdLoop (I : World → Nat → List UInt8 → Int → Prop) (f : Nat) (W : World) (p q : Nat) (k n : Int) (s : List UInt8) (m : Nat) (r : List UInt8) (x : Int) (gk : Nat) (s7 : Value) (wr : World) : Prop :=
  ∃ (j : Nat) (l : List VT) (v : Value) (b' : List UInt8) (y : Int), s7 = .int .i64 j ∧ l.length = j ∧ j + gk = m ∧ b'.length ≤ 1000000 ∧ wr.heap[q]? = some (.cells #[.int .i64 k, .int .i64 n, .string (bytes s), v] 33 (0, 0)) ∧ KRow wr W.heap.size v l ∧ I wr p b' y ∧
    rvs (rv f) m r x = (l ++ (rvs (rv f) gk b' y).1, (rvs (rv f) gk b' y).2) ∧ Chg [p, q] W wr
theorem hdr4_cells {w : World} {q : Nat} {a b c d : Value} {t : TypeId} (h : w.heap[q]? = some (.cells #[a, b, c, d] t (0, 0))) : w.cell? ⟨q, 0, none⟩ = some a ∧ w.cell? ⟨q, 1, none⟩ = some b ∧ w.cell? ⟨q, 2, none⟩ = some c ∧ w.cell? ⟨q, 3, none⟩ = some d ∧ ∀ j, w.frozen? ⟨q, j, none⟩ = false :=
  ⟨by simp [World.cell?, h], by simp [World.cell?, h], by simp [World.cell?, h], by simp [World.cell?, h], fun j => by simp [World.frozen?, h]⟩
theorem four_ret {w : World} {H : Nat} {a b c d y0 y1 y2 y3 : Value} {t : TypeId} (h : w.heap[H]? = some (.cells #[a, b, c, d] t (0, 0))) :
    ((((w.setCell ⟨H, 0, none⟩ y0).setCell ⟨H, 1, none⟩ y1).setCell ⟨H, 2, none⟩ y2).setCell ⟨H, 3, none⟩ y3).heap[H]? = some (.cells #[y0, y1, y2, y3] t (0, 0)) ∧
    Chg [H] w ((((w.setCell ⟨H, 0, none⟩ y0).setCell ⟨H, 1, none⟩ y1).setCell ⟨H, 2, none⟩ y2).setCell ⟨H, 3, none⟩ y3) := by
  have h2 := hdr4_set (o := 0) (u := y0) h
  have h3 := hdr4_set (o := 1) (u := y1) (a := y0) (b := b) (c := c) (d := d) (h2.trans rfl)
  have h4 := hdr4_set (o := 2) (u := y2) (a := y0) (b := y1) (c := c) (d := d) (h3.trans rfl)
  have h5 := hdr4_set (o := 3) (u := y3) (a := y0) (b := y1) (c := y2) (d := d) (h4.trans rfl)
  refine ⟨h5.trans rfl, ?_⟩
  exact ((((Chg.refl [H] w).setCell (p := ⟨H, 0, none⟩) (.inl (by simp)) _).setCell (p := ⟨H, 1, none⟩) (.inl (by simp)) _).setCell (p := ⟨H, 2, none⟩) (.inl (by simp)) _).setCell (p := ⟨H, 3, none⟩) (.inl (by simp)) _

theorem app_block {w5 w6 : World} {o : Obj} {v : Value} {q : Nat} (hg : (w5.alloc o).grownBy w6 v.ownBlock) (hq : q < w5.heap.size) (hv : v.ownBlock ≠ some q) : w6.heap[q]? = w5.heap[q]? :=
  (((Chg.refl v.ownBlock.toList w5).alloc o).grown hg (fun k hk => .inl (by simp [hk]))).block q hq (by simpa using hv)
theorem cell3_later {w : World} {q : Nat} {a b c d : Value} {t : TypeId} (h : w.heap[q]? = some (.cells #[a, b, c, d] t (0, 0))) : ∀ o, (w.alloc o).cell? ⟨q, 3, none⟩ = some d := fun o => by
  have := (heap_alloc_old w o (lt_of_block h)).trans h
  simp [World.cell?, this]
theorem rd_round {W wr w5 w6 : World} {p q g cap ao5c : Nat} {ao5 : Option Addr} {v : Value} {l : List VT} {ps : List (Option Addr × Nat)} {t : VT} {o : Obj} (hp : p < W.heap.size) (hq : q < W.heap.size) (hcr : Chg [p, q] W wr) (hkr : KRow wr W.heap.size v l) (hc5 : Chg [p] wr w5) (hv5 : ValIs w5 (fun b => wr.heap.size ≤ b ∧ b < w5.heap.size) t (vval t ao5 ao5c))
    (k1 : ps.length = l.length) (k3 : ∀ k, v.ownBlock = some k → W.heap.size ≤ k)
    (k4 : ∀ (i : Nat) (t : VT) (p : Option Addr × Nat), l[i]? = some t → ps[i]? = some p → ValIs w5 (fun b => W.heap.size ≤ b ∧ b < w5.heap.size ∧ v.ownBlock ≠ some b) t (vval t p.1 p.2))
    (k2 : RowZ w5 33 4 v l.length (kcells l ps))
    (hr : RowZ w6 33 4 (.slice (some ⟨g, 0, none⟩) (l.length + 1) cap) (l.length + 1) (kcells l ps ++ kcell t (ao5, ao5c))) (hg : (w5.alloc o).grownBy w6 v.ownBlock) (hl : v.ownBlock = some g ∨ g = (w5.alloc o).heap.size) (x : Value) :
    KRow (w6.setCell ⟨q, 3, none⟩ x) W.heap.size (.slice (some ⟨g, 0, none⟩) (l.length + 1) cap) (l ++ [t]) ∧ Chg [p, q] W (w6.setCell ⟨q, 3, none⟩ x) ∧ Chg (v.ownBlock.toList ++ [q]) w5 (w6.setCell ⟨q, 3, none⟩ x) := by
  have hsz := hc5.size
  have hszr := hcr.size
  have hlt : ∀ k, v.ownBlock = some k → k < wr.heap.size := fun k hk' => by obtain ⟨_, _, h2, _, _⟩ := hkr; exact h2.lt hk'
  have hA := KRow.app (w := w5) (base := W.heap.size) (t := t) (p := (ao5, ao5c)) k1 (fun k hk' => ⟨k3 k hk', k2.lt hk'⟩) (by omega) k4 (hv5.mono fun b hb => ⟨by omega, hb.2, fun e => by have := hlt b e; omega⟩) hr hg hl
  have hB : Chg v.ownBlock.toList w5 w6 := ((Chg.refl _ w5).alloc o).grown hg (fun k hk => .inl (by simp [hk]))
  have hC : Chg (v.ownBlock.toList ++ [q]) w5 (w6.setCell ⟨q, 3, none⟩ x) := (hB.mono (by intro k hk; simp at hk ⊢; exact .inl hk)).trans (chg1_set w6 q 3 x) (fun k hk => .inl (by simp at hk ⊢; exact .inr hk))
  refine ⟨hA.chg (chg1_set w6 q 3 x) (fun k hk => by simp at hk; omega), ?_, hC⟩
  refine (hcr.trans hc5 (fun k hk => .inl (by simp at hk ⊢; exact .inl hk))).trans hC (fun k hk => ?_)
  simp at hk
  rcases hk with hk | hk
  · exact .inr (k3 k hk)
  · exact .inl (by simp [hk])
theorem wf_in {k : Int} (h1 : -9223372036854775808 ≤ k) (h2 : k ≤ 9223372036854775807) : (Lit.int .i64 k).wf = true := by
  have e1 : IntKind.i64.min = -9223372036854775808 := by decide
  have e2 : IntKind.i64.max = 9223372036854775807 := by decide
  simp only [Lit.wf, Bool.and_eq_true, decide_eq_true_eq]
  omega
theorem rd_end {I : World → Nat → List UInt8 → Int → Prop} {w W wr wz : World} {p q H : Nat} {k n y : Int} {s b' : List UInt8} {v : Value} {l : List VT} (hs : w.heap.size ≤ W.heap.size) (hH : w.heap.size ≤ H) (hHW : H < W.heap.size) (hq : w.heap.size ≤ q) (hW : Chg [p] w W) (hcr : Chg [p, q] W wr) (hc : Chg [H] wr wz) (hkr : KRow wr W.heap.size v l) (hi : I wz p b' y)
    (hk : 0 ≤ k ∧ k ≤ 6 ∧ -4611686018427387904 ≤ n ∧ n ≤ 4611686018427387903 ∧ s.length ≤ 1000000) : RdEnd I w p (.node k n (bytes s) l, b', y) (.returned (.agg #[.int .i64 k, .int .i64 n, .string (bytes s), v])) wz := by
  obtain ⟨ao, cap, rfl, h1, h2, h3, h4⟩ := hkr.kids
  have hsr := hcr.size
  have hsz := hc.size
  refine ⟨_, rfl, ?_, hi, ?_⟩
  · have hv : ValIs wr (fun b => W.heap.size ≤ b ∧ b < wr.heap.size) (.node k n (bytes s) l) (.agg #[.int .i64 k, .int .i64 n, .string (bytes s), .slice ao l.length cap]) := by
      unfold ValIs
      exact ⟨ao, cap, rfl, h1, h2, by unfold maxLen; rw [bytes_size]; omega, wf_in (by omega) (by omega), wf_in (by omega) (by omega), h3, h4⟩
    exact (hv.chg hc (fun b hb => ⟨hb.2, by simp; omega⟩)).mono fun b hb => ⟨by omega, by omega⟩
  · exact (hW.trans hcr (fun k hk => by simp at hk ⊢; omega)).trans hc (fun k hk => by simp at hk ⊢; omega)
abbrev Z4 : Obj := .cells #[.int .i64 0, .int .i64 0, .string ⟨#[]⟩, .slice none 0 0] 33 (0, 0)

end Go.Proofs.YtcpgbekcbaelpaaGreatDoor
/- The program's get: a value out of bytes. -/
namespace Go.Proofs.YtcpgbekcbaelpaaGreatDoor
open Go.RowKit Go.Maps Wr
set_option linter.unusedVariables false
variable {M : Nat}

theorem InW.chg {w w' : World} {p : Nat} {b : List UInt8} {e : Int} {F : List Nat} (h : InW M w p b e) (hc : Chg F w w') (hp : p ∉ F) (hF : ∀ k ∈ F, M ≤ k) : InW M w' p b e := by
  obtain ⟨v, hz, ao, cap, h1, h2, h3, h4⟩ := h
  refine ⟨v, (hc.block p (lt_of_block hz) hp).trans hz, ao, cap, h1, h2, h3, fun j hj => ?_⟩
  obtain ⟨g, o, e1, e2, e3, e4⟩ := h4 j hj
  exact ⟨g, o, e1, e2, ⟨e3.1, Nat.le_trans e3.2 hc.size⟩, (hc.cell (p := ⟨g, o + j, none⟩) (Nat.lt_of_lt_of_le e3.1 e3.2) (fun hm => by have := hF g hm; omega)).trans e4⟩
theorem InW.lt {w : World} {p : Nat} {b : List UInt8} {x : Int} (h : InW M w p b x) : p < w.heap.size := by
  obtain ⟨v, hz, _⟩ := h; exact lt_of_block hz
abbrev Zk (k : Int) : Obj := .cells #[.int .i64 k, .int .i64 0, .string ⟨#[]⟩, .slice none 0 0] 33 (0, 0)

set_option maxRecDepth 100000 in
set_option maxHeartbeats 1600000 in
theorem get_walk : ∀ (f : Nat) (p : Nat) (b : List UInt8) (d : Int) (w : World), M ≤ w.heap.size → InW M w p b 0 → b.length ≤ 1000000 → (f : Int) + d = 201 → 0 ≤ d → Calls Tryz.prog 138 #[.pointer (some ⟨p, 0, none⟩), .int .i64 d] w (RdEnd (InW M) w p (rv f b)) := by
  intro f
  induction f with
  | zero => 
    intro p b d w hM h hl hd hd0
    obtain rfl : d = 201 := by omega
    have hp := h.lt
    have HN := Lib.hid (fail_any p b 2 (w.alloc Z4) (h.chg ((Chg.refl [] w).alloc Z4) (by simp) (by simp)))
    have hZ1 := heap_alloc_new w Z4
    have Z1 := Lib.hid hZ1
    clear h hZ1
    go_enter Tryz.func138, Tryz.ntmps138
    go_wp2_with (go_at_call 113; refine HN.out.mono ?_; rintro e w5 ⟨rfl, hin, hc⟩; have z5 := (hc.block w.heap.size (lt_of_block Z1.out) (by simp; omega)).trans Z1.out; obtain ⟨y0, y1, y2, y3, y4⟩ := hdr4_cells z5; have HIN := Lib.hid hin; have HC := Lib.hid hc; have Z5 := Lib.hid z5; clear hin hc z5)
    all_goals
      obtain ⟨z1, z2⟩ := four_ret (y0 := .int .i64 0) (y1 := .int .i64 0) (y2 := .string ⟨#[]⟩) (y3 := .slice none 0 0) Z5.out
      generalize ((((World.setCell _ _ _).setCell _ _).setCell _ _).setCell _ _) = wz at z1 z2 ⊢
      obtain ⟨y0, y1, y2, y3, _⟩ := hdr4_cells z1
      refine bodyPost_ret (v := .agg #[.int .i64 0, .int .i64 0, .string ⟨#[]⟩, .slice none 0 0]) (by simp [results, Tryz.results138, go_sem, y0, y1, y2, y3]) rfl ?_
      exact ⟨_, rfl, leaf_is _ _ 0 0 ⟨#[]⟩ (by decide) (by decide) (sz_max _ (by decide)), HIN.out.chg z2 (by simp; omega) (by simp; omega), (((Chg.refl [p] w).alloc Z4).trans HC.out (Within.refl _ _)).trans z2 (fun k hk => by simp at hk ⊢; omega)⟩
  | succ f ih =>
    intro p b d w hM h hl hdp hd0
    have hd2 : d ≤ 200 := by omega
    have hp := h.lt
    have HMW := Lib.hid hM
    have HNf := wNum_fn p b 0 0 6 (w.alloc Z4) (h.chg ((Chg.refl [] w).alloc Z4) (by simp) (by simp)) hl
    have hZ1 : (w.alloc Z4).heap[w.heap.size]? = some Z4 := heap_alloc_new _ _
    obtain ⟨k, b1, x1, hk⟩ : ∃ k b1 x1, rn 0 6 b 0 = (k, b1, x1) := ⟨_, _, _, rfl⟩
    have hkin := rn_in (lo := 0) (hi := 6) b 0 (by omega) (by omega)
    have hb1 := rn_le 0 6 b 0
    have hhd : hd b = hdOf b1 k x1 := by unfold hd; rw [hk]
    rw [hk] at HNf hkin hb1
    obtain ⟨hk0, hk6⟩ := hkin
    simp only at hk0 hk6 hb1
    have HK := Lib.hid HNf
    have Z1 := Lib.hid hZ1
    have HHD := Lib.hid hhd
    clear h hk HNf hZ1 hhd hM
    go_enter Tryz.func138, Tryz.ntmps138
    go_upto_block 0 with (first | (go_at_call 111; refine HK.out.mono ?_; rintro e w5 ⟨rfl, hin, hc⟩; replace hin : InW M w5 p b1 x1 := hin; have HIN := Lib.hid hin; have HC := Lib.hid hc; have S5 := Lib.hid hc.size; clear hin hc))
    obtain ⟨q, hq⟩ : ∃ q, q = w5.heap.size := ⟨_, rfl⟩
    obtain ⟨w6, hw6⟩ : ∃ w6, w6 = w5.alloc (Zk k) := ⟨_, rfl⟩
    have hs6 : w6.heap.size = q + 1 := by rw [hw6, hq]; simp
    have z6 : w6.heap[q]? = some (Zk k) := by rw [hw6, hq]; exact heap_alloc_new _ _
    have hi6 : InW M w6 p b1 x1 := by rw [hw6]; exact HIN.out.chg ((Chg.refl [] w5).alloc _) (by simp) (by simp)
    have x6 : w6.heap[w.heap.size]? = some Z4 := by
      rw [hw6]
      exact (heap_alloc_old _ _ (Nat.lt_of_lt_of_le (lt_of_block Z1.out) S5.out)).trans ((HC.out.block w.heap.size (lt_of_block Z1.out) (by simp; omega)).trans Z1.out)
    have hcw6 : Chg [p] w w6 := by
      rw [hw6]
      exact (((Chg.refl [p] w).alloc Z4).trans HC.out (Within.refl _ _)).alloc _
    have hqw : w.heap.size + 1 ≤ q := by
      have := S5.out
      rw [hq]
      simpa using this
    rw [← hq, ← hw6]
    have HI6 := Lib.hid hi6
    have Z6 := Lib.hid z6
    have X6 := Lib.hid x6
    have S6 := Lib.hid hs6
    have HCW6 := Lib.hid hcw6
    clear hw6 hq HC HIN HK Z1 S5
    obtain ⟨b60, b61, b62, b63, b64⟩ := hdr4_cells z6
    clear z6 hi6 x6 hs6 hcw6
    have HP6 : Hid (p < w6.heap.size) := HI6.out.lt
    have HQ : Hid (w.heap.size + 1 ≤ q) := hqw
    have HPW : Hid (p < w.heap.size) := hp
    go_cut [6] (fun s6 wx => RdHead (InW M) w6 p q (hd b) s6 wx)
    case first =>
      have HC6 : Hid (Chg [p, q] w6 w6) := Chg.refl _ _
      have hc : k = 0 ∨ k = 1 ∨ k = 2 ∨ k = 3 ∨ k = 4 ∨ k = 5 ∨ k = 6 := by omega
      clear hk0 hk6
      rcases hc with rfl | rfl | rfl | rfl | rfl | rfl | rfl
      · obtain ⟨n, r, y, hr⟩ : ∃ n r y, rn (-4611686018427387904) 4611686018427387903 b1 x1 = (n, r, y) := ⟨_, _, _, rfl⟩
        have he : hd b = ⟨0, n, [], 0, r, y⟩ := by rw [HHD.out]; unfold hdOf; rw [if_pos rfl, hr]
        have hA := wNum_fn p b1 x1 (-4611686018427387904) 4611686018427387903 w6 HI6.out (by omega)
        rw [hr] at hA
        have HA := Lib.hid hA
        have HE := Lib.hid he
        clear hr hA he
        go_wp2_with (go_at_call 111; refine HA.out.mono ?_; rintro e w7 ⟨rfl, hin, hc⟩; replace hin : InW M w7 p r y := hin; have IN7 := Lib.hid hin; have C7 := Lib.hid hc; have z7 := (hc.block q (lt_of_block Z6.out) (by simp; omega)).trans Z6.out; obtain ⟨a70, a71, a72, a73, a74⟩ := hdr4_cells z7; have Z7 := Lib.hid z7; clear hin hc z7)
        go_meet
        case rel =>
          rw [HE.out]
          refine ⟨rfl, ?_, ?_, ?_⟩
          · exact (hdr4_set Z7.out).trans rfl
          · exact IN7.out.chg (chg1_set w7 q 1 _) (by simp; omega) (by have := HMW.out; simp; omega)
          · exact (HC6.out.trans C7.out (fun j hj => .inl (by simp at hj ⊢; omega))).trans (chg1_set w7 q 1 _) (fun j hj => .inl (by simp at hj ⊢; omega))
      · obtain ⟨s, r, y, hr⟩ : ∃ s r y, rs 4096 b1 x1 = (s, r, y) := ⟨_, _, _, rfl⟩
        have he : hd b = ⟨1, 0, s, 0, r, y⟩ := by rw [HHD.out]; unfold hdOf; rw [if_neg (by omega), if_pos (by omega), hr]
        have hA := wStr_fn p b1 x1 4096 w6 HI6.out (by omega) (by omega)
        rw [hr] at hA
        have HA := Lib.hid hA
        have HE := Lib.hid he
        clear hr hA he
        go_wp2_with (go_at_call 112; refine HA.out.mono ?_; rintro e w7 ⟨rfl, hin, hc⟩; replace hin : InW M w7 p r y := hin; have IN7 := Lib.hid hin; have C7 := Lib.hid hc; have z7 := (hc.block q (lt_of_block Z6.out) (by simp; omega)).trans Z6.out; obtain ⟨a70, a71, a72, a73, a74⟩ := hdr4_cells z7; have Z7 := Lib.hid z7; clear hin hc z7)
        go_meet
        case rel =>
          rw [HE.out]
          refine ⟨rfl, ?_, ?_, ?_⟩
          · exact (hdr4_set Z7.out).trans rfl
          · exact IN7.out.chg (chg1_set w7 q 2 _) (by simp; omega) (by have := HMW.out; simp; omega)
          · exact (HC6.out.trans C7.out (fun j hj => .inl (by simp at hj ⊢; omega))).trans (chg1_set w7 q 2 _) (fun j hj => .inl (by simp at hj ⊢; omega))
      · obtain ⟨s, r, y, hr⟩ : ∃ s r y, rs 4096 b1 x1 = (s, r, y) := ⟨_, _, _, rfl⟩
        have he : hd b = ⟨2, 0, s, 0, r, y⟩ := by rw [HHD.out]; unfold hdOf; rw [if_neg (by omega), if_pos (by omega), hr]
        have hA := wStr_fn p b1 x1 4096 w6 HI6.out (by omega) (by omega)
        rw [hr] at hA
        have HA := Lib.hid hA
        have HE := Lib.hid he
        clear hr hA he
        go_wp2_with (go_at_call 112; refine HA.out.mono ?_; rintro e w7 ⟨rfl, hin, hc⟩; replace hin : InW M w7 p r y := hin; have IN7 := Lib.hid hin; have C7 := Lib.hid hc; have z7 := (hc.block q (lt_of_block Z6.out) (by simp; omega)).trans Z6.out; obtain ⟨a70, a71, a72, a73, a74⟩ := hdr4_cells z7; have Z7 := Lib.hid z7; clear hin hc z7)
        go_meet
        case rel =>
          rw [HE.out]
          refine ⟨rfl, ?_, ?_, ?_⟩
          · exact (hdr4_set Z7.out).trans rfl
          · exact IN7.out.chg (chg1_set w7 q 2 _) (by simp; omega) (by have := HMW.out; simp; omega)
          · exact (HC6.out.trans C7.out (fun j hj => .inl (by simp at hj ⊢; omega))).trans (chg1_set w7 q 2 _) (fun j hj => .inl (by simp at hj ⊢; omega))
      · obtain ⟨n, r, y, hr⟩ : ∃ n r y, rn 0 255 b1 x1 = (n, r, y) := ⟨_, _, _, rfl⟩
        obtain ⟨m, r2, y2, hr2⟩ : ∃ m r2 y2, rn 0 8 r y = (m, r2, y2) := ⟨_, _, _, rfl⟩
        have he : hd b = ⟨3, n, [], m, r2, y2⟩ := by rw [HHD.out]; unfold hdOf; rw [if_neg (by omega), if_neg (by omega), if_pos rfl, hr]; simp only; rw [hr2]
        have hrl := rn_le 0 255 b1 x1
        rw [hr] at hrl
        simp only at hrl
        have hA := wNum_fn p b1 x1 0 255 w6 HI6.out (by omega)
        rw [hr] at hA
        have hA2 : ∀ W, InW M W p r y → Calls Tryz.prog 111 #[.pointer (some ⟨p, 0, none⟩), .int .i64 0, .int .i64 8] W (NumFn (InW M) W p (m, r2, y2)) := fun W hW => by
          have := wNum_fn p r y 0 8 W hW (by omega)
          rwa [hr2] at this
        have HA := Lib.hid hA
        have HA2 := Lib.hid hA2
        have HE := Lib.hid he
        clear hr hA hA2 he hr2
        go_wp2_with (first
          | (go_at_call 111; refine HA.out.mono ?_; rintro e w7 ⟨rfl, hin, hc⟩; replace hin : InW M w7 p r y := hin; have IN7 := Lib.hid hin; have C7 := Lib.hid hc; have z7 := (hc.block q (lt_of_block Z6.out) (by simp; omega)).trans Z6.out; obtain ⟨a70, a71, a72, a73, a74⟩ := hdr4_cells z7; have Z7 := Lib.hid z7; clear hin hc z7; clear HA; have Z8 : Hid ((w7.setCell ⟨q, 1, none⟩ (.int .i64 n)).heap[q]? = some (.cells #[.int .i64 3, .int .i64 n, .string ⟨#[]⟩, .slice none 0 0] 33 (0, 0))) := (hdr4_set Z7.out).trans rfl; have hI8 : InW M (w7.setCell ⟨q, 1, none⟩ (.int .i64 n)) p r y := IN7.out.chg (chg1_set w7 q 1 _) (by simp; omega) (by have := HMW.out; simp; omega); have I8 := Lib.hid hI8; clear hI8)
          | (go_at_call 111; refine (HA2.out _ I8.out).mono ?_; rintro e w9 ⟨rfl, hin, hc⟩; replace hin : InW M w9 p r2 y2 := hin; have IN9 := Lib.hid hin; have C9 := Lib.hid hc; have z9 := (hc.block q (lt_of_block Z8.out) (by simp; omega)).trans Z8.out; obtain ⟨a90, a91, a92, a93, a94⟩ := hdr4_cells z9; have Z9 := Lib.hid z9; clear hin hc z9))
        go_meet
        case rel =>
          rw [HE.out]
          refine ⟨rfl, Z9.out, IN9.out, ?_⟩
          exact ((HC6.out.trans C7.out (fun j hj => .inl (by simp at hj ⊢; omega))).trans (chg1_set w7 q 1 _) (fun j hj => .inl (by simp at hj ⊢; omega))).trans C9.out (fun j hj => .inl (by simp at hj ⊢; omega))
      · obtain ⟨n, r, y, hr⟩ : ∃ n r y, rn (2) 8 b1 x1 = (n, r, y) := ⟨_, _, _, rfl⟩
        have he : hd b = ⟨4, 0, [], n, r, y⟩ := by rw [HHD.out]; unfold hdOf; rw [if_neg (by omega)]; rw [if_neg (by omega)]; rw [if_neg (by omega)]; rw [if_pos rfl, hr]
        have hA := wNum_fn p b1 x1 (2) 8 w6 HI6.out (by omega)
        rw [hr] at hA
        have HA := Lib.hid hA
        have HE := Lib.hid he
        clear hr hA he
        go_wp2_with (go_at_call 111; refine HA.out.mono ?_; rintro e w7 ⟨rfl, hin, hc⟩; replace hin : InW M w7 p r y := hin; have IN7 := Lib.hid hin; have C7 := Lib.hid hc; have z7 := (hc.block q (lt_of_block Z6.out) (by simp; omega)).trans Z6.out; obtain ⟨a70, a71, a72, a73, a74⟩ := hdr4_cells z7; have Z7 := Lib.hid z7; clear hin hc z7)
        go_meet
        case rel =>
          rw [HE.out]
          refine ⟨rfl, ?_, ?_, ?_⟩
          · exact Z7.out
          · exact IN7.out
          · exact HC6.out.trans C7.out (fun j hj => .inl (by simp at hj ⊢; omega))
      · obtain ⟨n, r, y, hr⟩ : ∃ n r y, rn (1) 1099511627776 b1 x1 = (n, r, y) := ⟨_, _, _, rfl⟩
        have he : hd b = ⟨5, n, [], 0, r, y⟩ := by rw [HHD.out]; unfold hdOf; rw [if_neg (by omega)]; rw [if_neg (by omega)]; rw [if_neg (by omega)]; rw [if_neg (by omega)]; rw [if_pos rfl, hr]
        have hA := wNum_fn p b1 x1 (1) 1099511627776 w6 HI6.out (by omega)
        rw [hr] at hA
        have HA := Lib.hid hA
        have HE := Lib.hid he
        clear hr hA he
        go_wp2_with (go_at_call 111; refine HA.out.mono ?_; rintro e w7 ⟨rfl, hin, hc⟩; replace hin : InW M w7 p r y := hin; have IN7 := Lib.hid hin; have C7 := Lib.hid hc; have z7 := (hc.block q (lt_of_block Z6.out) (by simp; omega)).trans Z6.out; obtain ⟨a70, a71, a72, a73, a74⟩ := hdr4_cells z7; have Z7 := Lib.hid z7; clear hin hc z7)
        go_meet
        case rel =>
          rw [HE.out]
          refine ⟨rfl, ?_, ?_, ?_⟩
          · exact (hdr4_set Z7.out).trans rfl
          · exact IN7.out.chg (chg1_set w7 q 1 _) (by simp; omega) (by have := HMW.out; simp; omega)
          · exact (HC6.out.trans C7.out (fun j hj => .inl (by simp at hj ⊢; omega))).trans (chg1_set w7 q 1 _) (fun j hj => .inl (by simp at hj ⊢; omega))
      · have he : hd b = ⟨6, 0, [], 0, b1, x1⟩ := by rw [HHD.out]; unfold hdOf; rw [if_neg (by omega), if_neg (by omega), if_neg (by omega), if_neg (by omega), if_neg (by omega)]
        have HE := Lib.hid he
        clear he
        go_wp2
        go_meet
        case rel =>
          rw [HE.out]
          exact ⟨rfl, Z6.out, HI6.out, HC6.out⟩
    case rest =>
      obtain ⟨rfl, zq, hix, hcx⟩ := hcut
      have hrv : rv (f + 1) b = (.node (hd b).k (hd b).n (bytes (hd b).s) (rvs (rv f) (hd b).m.toNat (hd b).r (hd b).x).1, (rvs (rv f) (hd b).m.toNat (hd b).r (hd b).x).2) := by rw [rv]
      obtain ⟨hm0, hm8⟩ := hd_m b
      have hrl := hd_le b
      have hwf := hd_wf b
      obtain ⟨h, hh⟩ : ∃ h, hd b = h := ⟨_, rfl⟩
      rw [hh] at hrv zq hix hm0 hm8 hrl hwf
      rw [hh]
      clear hh HHD
      obtain ⟨k', n', s', m', r', x'⟩ := h
      simp only at hrv zq hix hm0 hm8 hrl hwf ⊢
      obtain ⟨m, rfl⟩ : ∃ m : Nat, m' = (m : Int) := ⟨m'.toNat, by omega⟩
      rw [Int.toNat_natCast] at hrv
      have HRV := Lib.hid hrv
      have HWF := Lib.hid hwf
      have HL : Hid (RdLoop (InW M) f w6 p q k' n' s' m r' x' m (.int .i64 0) wc) := ⟨0, [], .slice none 0 0, r', x', rfl, rfl, by omega, by omega, zq, KRow.nil _ _, hix, by simp, hcx⟩
      clear hrv zq hix hcx hwf HI6 Z6 b60 b61 b62 b63 b64
      go_wp2
      go_loopg [45] m (fun gk s45 wr => RdLoop (InW M) f w6 p q k' n' s' m r' x' gk s45 wr)
      case atStart => exact HL.out
      case round =>
        clear HL
        obtain ⟨j, l, v, b', y, rfl, hll, hjm, hbl, zq, hkr, hir, hrvs, hcr⟩ := hrel
        have HKR := Lib.hid hkr
        have HIR := Lib.hid hir
        have HRVS := Lib.hid hrvs
        have HCR := Lib.hid hcr
        have ZQ := Lib.hid zq
        have HLL := Lib.hid hll
        obtain ⟨a0, a1, a2, a3, a4⟩ := hdr4_cells zq
        have HM8 : Hid (m ≤ 8) := by show m ≤ 8; omega
        have HMR : Hid (M ≤ wr.heap.size) := Nat.le_trans (Nat.le_trans HMW.out HCW6.out.size) hcr.size
        clear hkr hir hrvs hcr zq hll
        have g0 : (0 : Int) ≤ (j : Int) := by omega
        by_cases hlt : j < m
        · have g1 : (j : Int) < (m : Int) := by omega
          by_cases hy : y = 0
          · subst hy
            have HI := Lib.hid (fun W (hMW : M ≤ W.heap.size) (hW : InW M W p b' 0) => ih p b' (d + 1) W hMW hW hbl (by omega) (by omega))
            have hd3 : d + 1 ≤ 201 := by omega
            have hbl' := rv_le f b'
            obtain ⟨t, b2, y2, hrvf⟩ : ∃ t b2 y2, rv f b' = (t, b2, y2) := ⟨_, _, _, rfl⟩
            rw [hrvf] at HI hbl'
            simp only at hbl'
            have HRF := Lib.hid hrvf
            clear hrvf
            have hw1 : IntKind.i64.wrap (d + 1) = d + 1 := by rw [IntKind.wrap_i64]; omega
            go_wp2_with (go_at_call 114; refine (err_any p b' 0 _ HIR.out).mono ?_; rintro e w5 ⟨rfl, rfl⟩)
            go_region_law (first
              | (refine step_callw (w := wr.drew) (by rfl) 138 #[.pointer (some ⟨p, 0, none⟩), .int .i64 (d + 1)] ?_ (HI.out _ HMR.out HIR.out) ?_; go_simp; rintro e w5 ⟨v5, rfl, hv5, hi5, hc5⟩; replace hc5 : Chg [p] wr w5 := ((Chg.refl [p] wr).drewN 1).trans hc5 (Within.refl _ _); replace hv5 : ValIs w5 (fun b => wr.heap.size ≤ b ∧ b < w5.heap.size) t v5 := hv5; replace hi5 : InW M w5 p b2 y2 := hi5; obtain ⟨ao5, cap5, rfl⟩ := hv5.form; refine ⟨_, rfl, ?_⟩; have zq5 := (hc5.block q (lt_of_block ZQ.out) (by have := HPW.out; have := HQ.out; simp; omega)).trans ZQ.out; obtain ⟨n0, n1, n2, n3, n4⟩ := hdr4_cells zq5; have n9 := cell3_later zq5; have ZQ5 := Lib.hid zq5; have HV5 := Lib.hid hv5; have HI5 := Lib.hid hi5; have HC5 := Lib.hid hc5; obtain ⟨ps, k1, k2, k3, k4⟩ := HKR.out.chg hc5 (fun k hk => by have := HP6.out; simp at hk ⊢; omega); have K1 := Lib.hid k1; have K2 := Lib.hid k2; have K3 := Lib.hid k3; have K4 := Lib.hid k4; clear hv5 hi5 hc5 k1 k2 k3 k4 zq5; unfold vval)
              | (refine step_appz (w := w5.alloc _) (by rfl) _ _ rfl (v := v) (n := l.length) (xs := kcells l ps) (news := kcell t (ao5, cap5)) (by rfl) (K2.out.alloc _) (ad := ⟨w5.heap.size, 0, none⟩) (c := 1) (by rfl) rfl (cell_four_new _ _ _ _ _ _) (kcell_one _ _) (by have := HLL.out; have := HM8.out; omega) ?_; intro g cap1 w7 hr6 hg6 hl6; have R6 := Lib.hid hr6; have G6 := Lib.hid hg6; have L6 := Lib.hid hl6; clear hr6 hg6 hl6; have zq6 := (app_block G6.out (lt_of_block ZQ5.out) (fun e => by have := K3.out _ e; have := S6.out; omega)).trans ZQ5.out; obtain ⟨m0, m1, m2, m3, m4⟩ := hdr4_cells zq6; have ZQ6 := Lib.hid zq6; clear zq6))
            all_goals go_wp2
            all_goals
              obtain ⟨z1, z2, z3⟩ := rd_round (W := w6) HP6.out (by have := S6.out; omega) HCR.out HKR.out HC5.out HV5.out K1.out K3.out K4.out K2.out R6.out G6.out L6.out (.slice (some ⟨g, 0, none⟩) (l.length + 1) cap1)
              go_roundg (gk - 1)
              case measure => omega
              case rel =>
                refine ⟨j + 1, l ++ [t], _, b2, y2, by go_num, by simp [HLL.out], by omega, by omega, (hdr4_set ZQ6.out).trans rfl, z1, HI5.out.chg z3 (fun hk => by simp at hk; rcases hk with hk | hk; exact absurd (K3.out _ hk) (by have := HP6.out; omega); exact absurd hk (by have := HPW.out; have := HQ.out; omega)) (fun k hk => by simp at hk; have := HCW6.out.size; have := HMW.out; have := HQ.out; rcases hk with hk | hk; exact Nat.le_trans (by omega) (K3.out _ hk); omega), ?_, z2⟩
                obtain ⟨g', rfl⟩ : ∃ g', gk = g' + 1 := ⟨gk - 1, by omega⟩
                rw [HRVS.out, rvs, if_pos rfl, HRF.out]
                simp
          · have hq : (y == 0) = false := by simpa using hy
            have x0 := (HCR.out.block w.heap.size (lt_of_block X6.out) (by have := HPW.out; have := HQ.out; simp; omega)).trans X6.out
            obtain ⟨e0, e1, e2, e3, e4⟩ := hdr4_cells x0
            have X0 := Lib.hid x0
            clear x0
            have HX : Hid (rvs (rv f) m r' x' = (l, b', y)) := by
              show _ = _
              rw [HRVS.out, rvs_past hy]
              simp
            obtain ⟨ao, cap, hvv, _⟩ := HKR.out.kids
            subst hvv
            go_wp2_with (go_at_call 114; refine (err_any p b' y _ HIR.out).mono ?_; rintro e w5 ⟨rfl, rfl⟩)
            all_goals
              obtain ⟨z1, z2⟩ := four_ret (y0 := .int .i64 k') (y1 := .int .i64 n') (y2 := .string (bytes s')) (y3 := .slice ao l.length cap) X0.out
              generalize ((((World.setCell _ _ _).setCell _ _).setCell _ _).setCell _ _) = wz at z1 z2 ⊢
              obtain ⟨y0, y1, y2, y3, _⟩ := hdr4_cells z1
              refine bodyPost_ret (v := .agg #[.int .i64 k', .int .i64 n', .string (bytes s'), .slice ao l.length cap]) (by simp [results, Tryz.results138, go_sem, y0, y1, y2, y3]) rfl ?_
              rw [HRV.out, HX.out]
              exact rd_end (W := w6) (H := w.heap.size) (q := q) (by have := S6.out; have := HQ.out; omega) (Nat.le_refl _) (by have := S6.out; have := HQ.out; omega) (by have := HQ.out; omega) HCW6.out HCR.out z2 HKR.out (HIR.out.chg z2 (by have := HPW.out; simp; omega) (by have := HMW.out; simp; omega)) (by have := HWF.out; omega)
        · obtain ⟨rfl, rfl⟩ : gk = 0 ∧ j = m := ⟨by omega, by omega⟩
          have x0 := (HCR.out.block w.heap.size (lt_of_block X6.out) (by have := HPW.out; have := HQ.out; simp; omega)).trans X6.out
          obtain ⟨e0, e1, e2, e3, e4⟩ := hdr4_cells x0
          have X0 := Lib.hid x0
          clear x0
          have HX : Hid (rvs (rv f) j r' x' = (l, b', y)) := by
            show _ = _
            rw [HRVS.out, rvs]
            simp
          obtain ⟨ao, cap, hvv, _⟩ := HKR.out.kids
          subst hvv
          go_wp2_with (go_at_call 114; refine (err_any p b' y _ HIR.out).mono ?_; rintro e w5 ⟨rfl, rfl⟩)
          all_goals
            obtain ⟨z1, z2⟩ := four_ret (y0 := .int .i64 k') (y1 := .int .i64 n') (y2 := .string (bytes s')) (y3 := .slice ao l.length cap) X0.out
            generalize ((((World.setCell _ _ _).setCell _ _).setCell _ _).setCell _ _) = wz at z1 z2 ⊢
            obtain ⟨y0, y1, y2, y3, _⟩ := hdr4_cells z1
            refine bodyPost_ret (v := .agg #[.int .i64 k', .int .i64 n', .string (bytes s'), .slice ao l.length cap]) (by simp [results, Tryz.results138, go_sem, y0, y1, y2, y3]) rfl ?_
            rw [HRV.out, HX.out]
            exact rd_end (W := w6) (H := w.heap.size) (q := q) (by have := S6.out; have := HQ.out; omega) (Nat.le_refl _) (by have := S6.out; have := HQ.out; omega) (by have := HQ.out; omega) HCW6.out HCR.out z2 HKR.out (HIR.out.chg z2 (by have := HPW.out; simp; omega) (by have := HMW.out; simp; omega)) (by have := HWF.out; omega)
end Go.Proofs.YtcpgbekcbaelpaaGreatDoor
/- Both Decodes: what they answer. -/
namespace Go.Proofs.YtcpgbekcbaelpaaGreatDoor
open Go.RowKit Go.Maps Wr
set_option linter.unusedVariables false

def dec (b : List UInt8) : VT × Int :=
  if 16384 < b.length then (.node 0 0 ⟨#[]⟩ [], 2)
  else if (rv 200 b).2.2 = 0 ∧ (rv 200 b).2.1 = [] ∧ (rv 200 b).1.right 1 = true then ((rv 200 b).1, 0) else (.node 0 0 ⟨#[]⟩ [], 2)
theorem dec_big {b : List UInt8} (h : 16384 < b.length) : dec b = (.node 0 0 ⟨#[]⟩ [], 2) := by unfold dec; rw [if_pos h]
theorem dec_no {b : List UInt8} (h : ¬ 16384 < b.length) (h2 : ¬ ((rv 200 b).2.2 = 0 ∧ (rv 200 b).2.1 = [] ∧ (rv 200 b).1.right 1 = true)) : dec b = (.node 0 0 ⟨#[]⟩ [], 2) := by unfold dec; rw [if_neg h, if_neg h2]
theorem dec_ok {b : List UInt8} (h : ¬ 16384 < b.length) (h0 : (rv 200 b).2.2 = 0) (h1 : (rv 200 b).2.1 = []) (h2 : (rv 200 b).1.right 1 = true) : dec b = ((rv 200 b).1, 0) := by unfold dec; rw [if_neg h, if_pos ⟨h0, h1, h2⟩]

def BytesIn (w : World) (v : Value) (b : List UInt8) : Prop :=
  ∃ ao cap, v = .slice ao b.length cap ∧ b.length ≤ cap ∧ cap ≤ maxLen ∧ (ao = none → cap = 0) ∧ ∀ j (h : j < b.length), ∃ g o, ao = some ⟨g, o, none⟩ ∧ g < w.heap.size ∧ w.cell? ⟨g, o + j, none⟩ = some (.int .u8 ((b[j]).toNat : Int))
theorem BytesIn.below {w w' : World} {v : Value} {b : List UInt8} (h : BytesIn w v b) (hb : Below w.heap.size w w') : BytesIn w' v b := by
  obtain ⟨ao, cap, h1, h2, h3, h4, h5⟩ := h
  refine ⟨ao, cap, h1, h2, h3, h4, fun j hj => ?_⟩
  obtain ⟨g, o, e0, e1, e2⟩ := h5 j hj
  exact ⟨g, o, e0, Nat.lt_of_lt_of_le e1 hb.size, (hb.cell (p := ⟨g, o + j, none⟩) e1).trans e2⟩
theorem row_cells {w : World} {N : Nat} {v : Value} {b : List UInt8} (h : ByteRow w N v b) : ∃ ao cap, v = .slice ao b.length cap ∧ b.length ≤ cap ∧ cap ≤ maxLen ∧ (ao = none → cap = 0) ∧ ∀ j (h : j < b.length), ∃ g, ao = some ⟨g, 0, none⟩ ∧ N ≤ g ∧ g < w.heap.size ∧ w.cell? ⟨g, j, none⟩ = some (.int .u8 ((b[j]).toNat : Int)) := by
  rcases h.1.shape with ⟨rfl, h0⟩ | ⟨g, cap, rfl, h1, h2, hg⟩
  · have hb : b = [] := by
      have := congrArg List.length h0
      rw [bvals_length] at this
      exact List.length_eq_zero_iff.1 this
    subst hb
    exact ⟨none, 0, rfl, Nat.le_refl _, by unfold maxLen; omega, fun _ => rfl, fun j hj => absurd hj (by simp)⟩
  · have hr := h.1
    rw [bvals_length] at h1 hr ⊢
    refine ⟨some ⟨g, 0, none⟩, cap, rfl, h1, h2, (fun e => by cases e), fun j hj => ⟨g, rfl, h.2 g rfl, hg, ?_⟩⟩
    rw [hr.cellAt j (by rw [bvals_length]; exact hj)]
    simp [bvals, hj]
theorem BytesIn.row {w : World} {N : Nat} {v : Value} {b : List UInt8} (h : ByteRow w N v b) : BytesIn w v b := by
  obtain ⟨ao, cap, h1, h2, h3, h4, h5⟩ := row_cells h
  refine ⟨ao, cap, h1, h2, h3, h4, fun j hj => ?_⟩
  obtain ⟨g, e0, _, e1, e2⟩ := h5 j hj
  exact ⟨g, 0, e0, e1, by rw [Nat.zero_add]; exact e2⟩
set_option maxRecDepth 100000 in
theorem clone_any (v : Value) (b : List UInt8) (w : World) (h : BytesIn w v b) (hl : b.length ≤ 1000000) : Calls Tryz.prog 124 #[v] w fun e w' => ∃ v', e = .returned v' ∧ ByteRow w' w.heap.size v' b ∧ Below w.heap.size w w' := by
  obtain ⟨ao, cap, rfl, h2, h3, h4, h5⟩ := h
  cases ao with
  | none =>
    have hc := h4 rfl
    subst hc
    have hb : b = [] := List.length_eq_zero_iff.1 (by omega)
    subst hb
    clear h5 h4 h3 h2
    have he : ∀ w : World, (binOp .eql 44 (.slice none 0 0) (.slice none 0 0)).run Tryz.prog w = .ok (.bool true) w := fun _ => rfl
    go_enter Tryz.func124, Tryz.ntmps124
    go_wp2
    all_goals
      go_ret
      exact ⟨_, rfl, nil_row _ _, Below.refl _ _⟩
  | some A =>
    obtain ⟨i0, hi, hz0, hz1, hz2⟩ := info_parts infoB
    have hown0 : (w.alloc (.cells #[] 5)).ownsRow w.heap.size 5 1 (.slice (some ⟨w.heap.size, 0, none⟩) 0 0) 0 [] :=
      ⟨rfl, .inr ⟨w.heap.size, 0, #[], rfl, Nat.le_refl _, by show (w.heap.push _)[w.heap.size]? = _; simp, Nat.le_refl _, by unfold maxLen; omega, rfl, rfl⟩⟩
    have he : ∀ w : World, (binOp .eql 44 (.slice (some A) b.length cap) (.slice none 0 0)).run Tryz.prog w = .ok (.bool false) w := fun _ => rfl
    go_enter Tryz.func124, Tryz.ntmps124
    have hbl : b.length ≤ maxLen := by unfold maxLen; omega
    have H5 := Lib.hid h5
    have HBL := Lib.hid hbl
    clear h5 hbl
    go_wp2_with (at_builtin; refine wpList_append_own _ rfl (.tmp 5) (.tmp 6) 44 rfl w.heap.size 5 i0 (.int .u8 0) 1 1 Tryz.underlying44 hi hz0 hz1 hz2 rfl (by decide) _ _ _ rfl hown0 A b.length cap (bvals b) rfl (by rw [bvals_length, Nat.mul_one]) ?c1 (bvals_one b) (by have := HBL.out; omega) (by omega) (by simp) ?_)
    case c1 =>
      intro j u hu
      have hj : j < b.length := by
        have := (List.getElem?_eq_some_iff.1 hu).1
        rwa [bvals_length] at this
      obtain ⟨g, o, e0, e1, e2⟩ := H5.out j hj
      simp only [Option.some.injEq] at e0
      subst e0
      rw [show (Addr.add ⟨g, o, none⟩ j) = ⟨g, o + j, none⟩ by unfold Addr.add; split <;> simp_all]
      rw [((Below.refl w.heap.size w).alloc (Nat.le_refl _) _).cell (p := ⟨g, o + j, none⟩) e1, e2]
      rw [← hu]
      simp [bvals, hj]
    intro v' w1 hown' hgrow hnil
    go_wp2
    go_ret
    exact ⟨_, rfl, ByteRow.of hown' rfl, ((Below.refl _ _).alloc (Nat.le_refl _) _).grown hgrow (by simp) (fun k hk => by simp [Value.ownBlock] at hk; omega)⟩

theorem open_any (v : Value) (b : List UInt8) (w : World) (h : BytesIn w v b) (hl : b.length ≤ 1000000) : Calls Tryz.prog 110 #[v] w fun e w' => ∃ p M, e = .returned (.pointer (some ⟨p, 0, none⟩)) ∧ w.heap.size ≤ p ∧ M ≤ w'.heap.size ∧ InW M w' p b 0 ∧ Below w.heap.size w w' := by
  have HC := Lib.hid (clone_any v b w h hl)
  obtain ⟨ao, cap, rfl, _⟩ := h
  go_enter Tryz.func110, Tryz.ntmps110
  go_wp2_with (go_at_call 124; refine HC.out.mono ?_; rintro e w5 ⟨v5, rfl, hr5, hb5⟩; obtain ⟨ao5, cap5, rfl, h2, h3, h4, h5⟩ := row_cells hr5; have HB5 := Lib.hid hb5; have H5 := Lib.hid h5; have H2 := Lib.hid h2; have H3 := Lib.hid h3; clear hb5 hr5 h5 h2 h3 h4)
  go_ret
  refine ⟨_, w5.heap.size, rfl, HB5.out.size, by simp, ⟨_, heap_alloc_new _ _, ao5, cap5, rfl, H2.out, H3.out, fun j hj => ?_⟩, HB5.out.trans ((Below.refl _ _).alloc HB5.out.size _)⟩
  obtain ⟨g, e0, e1, e2, e3⟩ := H5.out j hj
  exact ⟨g, 0, e0, by omega, ⟨e2, by simp⟩, by rw [Nat.zero_add]; exact (((Below.refl w5.heap.size w5).alloc (Nat.le_refl _) _).cell (p := ⟨g, j, none⟩) e2).trans e3⟩

def DecEnd (w : World) (b : List UInt8) (e : Ending) (w' : World) : Prop :=
  ∃ v, e = .returned (.tuple #[v, .int .i64 (dec b).2]) ∧ ValIs w' (fun x => w.heap.size ≤ x ∧ x < w'.heap.size) (dec b).1 v ∧ Below w.heap.size w w'
theorem dec_zero {w wz : World} {b : List UInt8} (hd : dec b = (.node 0 0 ⟨#[]⟩ [], 2)) (hb : Below w.heap.size w wz) : DecEnd w b (.returned (.tuple #[.agg #[.int .i64 0, .int .i64 0, .string ⟨#[]⟩, .slice none 0 0], .int .i64 2])) wz := by
  unfold DecEnd
  rw [hd]
  exact ⟨_, rfl, leaf_is _ _ 0 0 ⟨#[]⟩ (by decide) (by decide) (sz_max _ (by decide)), hb⟩
theorem end_cases {x : Int} {r : List UInt8} : ((if x = 0 ∧ r ≠ [] then 2 else x) = 0) ↔ x = 0 ∧ r = [] := by
  by_cases h : x = 0 ∧ r ≠ []
  · rw [if_pos h]
    constructor
    · intro h2; omega
    · intro h2; exact absurd h2.2 h.2
  · rw [if_neg h]
    constructor
    · intro h2
      refine ⟨h2, ?_⟩
      by_cases hr : r = []
      · exact hr
      · exact absurd ⟨h2, hr⟩ h
    · intro h2; exact h2.1
structure DecAt (w W : World) (H q B : Nat) (t : VT) (ao : Option Addr) (cap : Nat) : Prop where
  hH : H = w.heap.size
  hB : H < B
  hq : B ≤ q
  zH : W.heap[H]? = some Z4
  zq : W.heap[q]? = some (.cells #[.int .i64 t.kind, .int .i64 t.num, .string t.text, .slice ao t.kids.length cap] 33 (0, 0))
  hv : ValIs W (fun x => B ≤ x ∧ x < W.heap.size) t (vval t ao cap)
  hb : Below w.heap.size w W
section
variable {w W W' : World} {H q B : Nat} {t : VT} {ao : Option Addr} {cap : Nat}
theorem DecAt.chg {F : List Nat} (h : DecAt w W H q B t ao cap) (hc : Chg F W W') (hF : ∀ k ∈ F, k < B ∧ H < k) : DecAt w W' H q B t ao cap := by
  have h1 := h.hH
  have h2 := h.hq
  have h3 := h.hB
  refine ⟨h1, h3, h2, (hc.block _ (lt_of_block h.zH) (fun hm => by have := hF _ hm; omega)).trans h.zH, (hc.block _ (lt_of_block h.zq) (fun hm => by have := hF _ hm; omega)).trans h.zq, ?_, ?_⟩
  · exact (h.hv.chg hc (fun b hb => ⟨hb.2, fun hm => by have := hF _ hm; omega⟩)).mono (fun x hx => ⟨hx.1, Nat.lt_of_lt_of_le hx.2 hc.size⟩)
  · exact h.hb.trans (hc.below h.hb.size (fun k hk => by have := hF k hk; omega))
theorem DecAt.below (h : DecAt w W H q B t ao cap) (hb : Below W.heap.size W W') : DecAt w W' H q B t ao cap :=
  ⟨h.hH, h.hB, h.hq, (hb.block _ (lt_of_block h.zH)).trans h.zH, (hb.block _ (lt_of_block h.zq)).trans h.zq, (h.hv.below hb (fun b hb => hb.2)).mono (fun x hx => ⟨hx.1, Nat.lt_of_lt_of_le hx.2 hb.size⟩), h.hb.trans (hb.mono h.hb.size)⟩
theorem dec_at {w5 : World} {p : Nat} (hc5 : Chg [p] W w5) (hp : w.heap.size < p) (z0 : W.heap[w.heap.size]? = some Z4) (hb : Below w.heap.size w W) (hv5 : ValIs w5 (fun x => W.heap.size ≤ x ∧ x < w5.heap.size) t (vval t ao cap)) :
    DecAt w (w5.alloc (.cells #[.int .i64 t.kind, .int .i64 t.num, .string t.text, .slice ao t.kids.length cap] 33 (0, 0))) w.heap.size w5.heap.size W.heap.size t ao cap := by
  have hA := (Below.refl w5.heap.size w5).alloc (Nat.le_refl _) (.cells #[.int .i64 t.kind, .int .i64 t.num, .string t.text, .slice ao t.kids.length cap] 33 (0, 0))
  have hl := lt_of_block z0
  have z5 := (hc5.block _ hl (by simp; omega)).trans z0
  refine ⟨rfl, hl, hc5.size, (hA.block _ (lt_of_block z5)).trans z5, heap_alloc_new _ _, (hv5.below hA (fun b hb => hb.2)).mono (fun x hx => ⟨hx.1, Nat.lt_of_lt_of_le hx.2 hA.size⟩), ?_⟩
  exact (hb.trans (hc5.below hb.size (fun k hk => by simp at hk; omega))).trans (hA.mono (Nat.le_trans hb.size hc5.size))
theorem DecAt.stored (h : DecAt w W H q B t ao cap) (hc : Chg [H] W W') : Below w.heap.size w W' := h.hb.trans (hc.below h.hb.size (fun k hk => by simp at hk; rw [hk, h.hH]; exact Nat.le_refl _))
theorem dec_full {b : List UInt8} (hd : dec b = (t, 0)) (h : DecAt w W H q B t ao cap) (hc : Chg [H] W W') : DecEnd w b (.returned (.tuple #[vval t ao cap, .int .i64 0])) W' := by
  unfold DecEnd
  rw [hd]
  refine ⟨_, rfl, ?_, h.stored hc⟩
  have h1 := h.hH
  have h3 := h.hB
  exact (h.hv.chg hc (fun x hx => ⟨hx.2, by simp; omega⟩)).mono (fun x hx => ⟨by omega, Nat.lt_of_lt_of_le hx.2 hc.size⟩)
end

set_option maxRecDepth 100000 in
set_option maxHeartbeats 1600000 in
theorem decode_any (v : Value) (b : List UInt8) (w : World) (hv : BytesIn w v b) (hl : b.length ≤ 1000000) : Calls Tryz.prog 87 #[v] w (DecEnd w b) := by
  have HOP := Lib.hid (open_any v b (w.alloc Z4) (hv.below ((Below.refl _ _).alloc (Nat.le_refl _) _)) hl)
  obtain ⟨ao, cap, rfl, _⟩ := hv
  by_cases hbig : 16384 < b.length
  · have g1 : (16384 : Int) < (b.length : Int) := by omega
    have hd := Lib.hid (dec_big hbig)
    go_enter Tryz.func87, Tryz.ntmps87
    go_wp2
    all_goals
      obtain ⟨y0, y1, y2, y3, _⟩ := hdr4_cells (heap_alloc_new w Z4)
      refine bodyPost_ret (v := .tuple #[.agg #[.int .i64 0, .int .i64 0, .string ⟨#[]⟩, .slice none 0 0], .int .i64 2]) (by simp [results, Tryz.results87, go_sem, y0, y1, y2, y3]) rfl ?_
      exact dec_zero hd.out ((Below.refl _ _).alloc (Nat.le_refl _) _)
  · have g1 : ¬ (16384 : Int) < (b.length : Int) := by omega
    obtain ⟨t, r, x, hrv⟩ : ∃ t r x, rv 200 b = (t, r, x) := ⟨_, _, _, rfl⟩
    have HRD := Lib.hid (fun p M W (hM : M ≤ W.heap.size) (hW : InW M W p b 0) => by have := get_walk 200 p b 1 W hM hW hl (by omega) (by omega); rwa [hrv] at this)
    obtain ⟨y, hy⟩ : ∃ y : Int, y = (if x = 0 ∧ r ≠ [] then 2 else x) := ⟨_, rfl⟩
    have HRE := Lib.hid (fun p M W (hW : InW M W p r x) => by have := end_any p r x W hW; rwa [← hy] at this)
    have HRV := Lib.hid hrv
    have HYC : Hid (y = 0 ↔ x = 0 ∧ r = []) := by rw [hy]; exact end_cases
    clear hrv hy
    by_cases hy0 : y = 0
    · subst hy0
      obtain ⟨rfl, rfl⟩ := HYC.out.1 rfl
      by_cases hrt : t.right 1 = true
      · have hd := Lib.hid (dec_ok hbig (by rw [HRV.out]) (by rw [HRV.out]) (by rw [HRV.out]; exact hrt))
        have HRT := Lib.hid hrt
        clear hrt
        go_enter Tryz.func87, Tryz.ntmps87
        go_wp2_with (first
          | (go_at_call 110; refine HOP.out.mono ?_; rintro e w4 ⟨p, M, rfl, hp4, hM4, hi4, hb4⟩; have I4 := Lib.hid hi4; have B4 := Lib.hid hb4; have M4 := Lib.hid hM4; have P4 : Hid (w.heap.size < p) := (by have h9 : w.heap.size + 1 ≤ p := (by simpa using hp4); exact h9); have z4 := (hb4.block w.heap.size (by simp)).trans (heap_alloc_new w Z4); have Z0 := Lib.hid z4; have B0 : Hid (Below w.heap.size w w4) := ((Below.refl w.heap.size w).alloc (Nat.le_refl _) Z4).trans (hb4.mono (by simp)); clear hp4 hM4 hi4 hb4 z4)
          | (go_at_call 138; refine (HRD.out p M _ M4.out I4.out).mono ?_; rintro e w5 ⟨v5, rfl, hv5, hi5, hc5⟩; obtain ⟨ao5, cap5, rfl⟩ := hv5.form; have d5 := dec_at (w := w) hc5 P4.out Z0.out B0.out hv5; have D6 := Lib.hid d5; have I6 := Lib.hid (InW.chg hi5 ((Chg.refl [] w5).alloc (.cells #[.int .i64 t.kind, .int .i64 t.num, .string t.text, .slice ao5 t.kids.length cap5] 33 (0, 0))) (by simp) (by simp)); have L4 := Lib.hid I4.out.lt; obtain ⟨s0, s1, s2, s3, s4⟩ := hdr4_cells d5.zq; obtain ⟨s5, s6, s7, s8, s9⟩ := hdr4_cells d5.zH; clear hv5 hi5 hc5 d5; unfold vval)
          | (go_at_call 115; refine (HRE.out _ _ _ I6.out).mono ?_; rintro e w7 ⟨rfl, hc7⟩; have d7 := D6.out.chg hc7 (by intro k hk; simp at hk; have := P4.out; have := L4.out; omega); obtain ⟨a0, a1, a2, a3, a4⟩ := hdr4_cells d7.zq; obtain ⟨b0, b1, b2, b3, b4⟩ := hdr4_cells d7.zH; have D7 := Lib.hid d7; clear hc7 d7)
          | (go_at_call 139; refine (right_walk t.sz t (vval t ao5 cap5) w7 _ 1 (Nat.le_refl _) D7.out.hv (fun x hx => hx.2) (by omega) (by omega)).mono ?_; rintro e w8 ⟨rfl, hb8⟩; rw [HRT.out]; have d8 := D7.out.below hb8; obtain ⟨c0, c1, c2, c3, c4⟩ := hdr4_cells d8.zq; obtain ⟨e0, e1, e2, e3, e4⟩ := hdr4_cells d8.zH; have D8 := Lib.hid d8; clear hb8 d8))
        all_goals
          obtain ⟨z1, z2⟩ := four_ret (y0 := .int .i64 t.kind) (y1 := .int .i64 t.num) (y2 := .string t.text) (y3 := .slice ao5 t.kids.length cap5) D8.out.zH
          generalize ((((w8.setCell _ _).setCell _ _).setCell _ _).setCell _ _) = wz at z1 z2 ⊢
          obtain ⟨y0, y1, y2, y3, _⟩ := hdr4_cells z1
          refine bodyPost_ret (v := .tuple #[vval t ao5 cap5, .int .i64 0]) (by simp [results, Tryz.results87, go_sem, y0, y1, y2, y3, vval]) rfl ?_
          exact dec_full (by rw [hd.out, HRV.out]) D8.out z2
      · have hrf : t.right 1 = false := by simpa using hrt
        have hd := Lib.hid (dec_no hbig (fun h => hrt (by have := h.2.2; rwa [HRV.out] at this)))
        have HRT := Lib.hid hrf
        clear hrt hrf
        go_enter Tryz.func87, Tryz.ntmps87
        go_wp2_with (first
          | (go_at_call 110; refine HOP.out.mono ?_; rintro e w4 ⟨p, M, rfl, hp4, hM4, hi4, hb4⟩; have I4 := Lib.hid hi4; have B4 := Lib.hid hb4; have M4 := Lib.hid hM4; have P4 : Hid (w.heap.size < p) := (by have h9 : w.heap.size + 1 ≤ p := (by simpa using hp4); exact h9); have z4 := (hb4.block w.heap.size (by simp)).trans (heap_alloc_new w Z4); have Z0 := Lib.hid z4; have B0 : Hid (Below w.heap.size w w4) := ((Below.refl w.heap.size w).alloc (Nat.le_refl _) Z4).trans (hb4.mono (by simp)); clear hp4 hM4 hi4 hb4 z4)
          | (go_at_call 138; refine (HRD.out p M _ M4.out I4.out).mono ?_; rintro e w5 ⟨v5, rfl, hv5, hi5, hc5⟩; obtain ⟨ao5, cap5, rfl⟩ := hv5.form; have d5 := dec_at (w := w) hc5 P4.out Z0.out B0.out hv5; have D6 := Lib.hid d5; have I6 := Lib.hid (InW.chg hi5 ((Chg.refl [] w5).alloc (.cells #[.int .i64 t.kind, .int .i64 t.num, .string t.text, .slice ao5 t.kids.length cap5] 33 (0, 0))) (by simp) (by simp)); have L4 := Lib.hid I4.out.lt; obtain ⟨s0, s1, s2, s3, s4⟩ := hdr4_cells d5.zq; obtain ⟨s5, s6, s7, s8, s9⟩ := hdr4_cells d5.zH; clear hv5 hi5 hc5 d5; unfold vval)
          | (go_at_call 115; refine (HRE.out _ _ _ I6.out).mono ?_; rintro e w7 ⟨rfl, hc7⟩; have d7 := D6.out.chg hc7 (by intro k hk; simp at hk; have := P4.out; have := L4.out; omega); obtain ⟨a0, a1, a2, a3, a4⟩ := hdr4_cells d7.zq; obtain ⟨b0, b1, b2, b3, b4⟩ := hdr4_cells d7.zH; have D7 := Lib.hid d7; clear hc7 d7)
          | (go_at_call 139; refine (right_walk t.sz t (vval t ao5 cap5) w7 _ 1 (Nat.le_refl _) D7.out.hv (fun x hx => hx.2) (by omega) (by omega)).mono ?_; rintro e w8 ⟨rfl, hb8⟩; rw [HRT.out]; have d8 := D7.out.below hb8; obtain ⟨c0, c1, c2, c3, c4⟩ := hdr4_cells d8.zq; obtain ⟨e0, e1, e2, e3, e4⟩ := hdr4_cells d8.zH; have D8 := Lib.hid d8; clear hb8 d8))
        all_goals
          obtain ⟨z1, z2⟩ := four_ret (y0 := .int .i64 0) (y1 := .int .i64 0) (y2 := .string ⟨#[]⟩) (y3 := .slice none 0 0) D8.out.zH
          generalize ((((w8.setCell _ _).setCell _ _).setCell _ _).setCell _ _) = wz at z1 z2 ⊢
          obtain ⟨y0, y1, y2, y3, _⟩ := hdr4_cells z1
          refine bodyPost_ret (v := .tuple #[.agg #[.int .i64 0, .int .i64 0, .string ⟨#[]⟩, .slice none 0 0], .int .i64 2]) (by simp [results, Tryz.results87, go_sem, y0, y1, y2, y3]) rfl ?_
          exact dec_zero hd.out (D8.out.stored z2)
    · have hq : (y == 0) = false := by simpa using hy0
      have hq2 : (y != 0) = true := by simp [bne, hq]
      have hd := Lib.hid (dec_no hbig (fun h => hy0 (HYC.out.2 (by rw [HRV.out] at h; exact ⟨h.1, h.2.1⟩))))
      go_enter Tryz.func87, Tryz.ntmps87
      go_wp2_with (first
        | (go_at_call 110; refine HOP.out.mono ?_; rintro e w4 ⟨p, M, rfl, hp4, hM4, hi4, hb4⟩; have I4 := Lib.hid hi4; have B4 := Lib.hid hb4; have M4 := Lib.hid hM4; have P4 : Hid (w.heap.size < p) := (by have h9 : w.heap.size + 1 ≤ p := (by simpa using hp4); exact h9); have z4 := (hb4.block w.heap.size (by simp)).trans (heap_alloc_new w Z4); have Z0 := Lib.hid z4; have B0 : Hid (Below w.heap.size w w4) := ((Below.refl w.heap.size w).alloc (Nat.le_refl _) Z4).trans (hb4.mono (by simp)); clear hp4 hM4 hi4 hb4 z4)
        | (go_at_call 138; refine (HRD.out p M _ M4.out I4.out).mono ?_; rintro e w5 ⟨v5, rfl, hv5, hi5, hc5⟩; obtain ⟨ao5, cap5, rfl⟩ := hv5.form; have d5 := dec_at (w := w) hc5 P4.out Z0.out B0.out hv5; have D6 := Lib.hid d5; have I6 := Lib.hid (InW.chg hi5 ((Chg.refl [] w5).alloc (.cells #[.int .i64 t.kind, .int .i64 t.num, .string t.text, .slice ao5 t.kids.length cap5] 33 (0, 0))) (by simp) (by simp)); have L4 := Lib.hid I4.out.lt; obtain ⟨s0, s1, s2, s3, s4⟩ := hdr4_cells d5.zq; obtain ⟨s5, s6, s7, s8, s9⟩ := hdr4_cells d5.zH; clear hv5 hi5 hc5 d5; unfold vval)
        | (go_at_call 115; refine (HRE.out _ _ _ I6.out).mono ?_; rintro e w7 ⟨rfl, hc7⟩; have d7 := D6.out.chg hc7 (by intro k hk; simp at hk; have := P4.out; have := L4.out; omega); obtain ⟨a0, a1, a2, a3, a4⟩ := hdr4_cells d7.zq; obtain ⟨b0, b1, b2, b3, b4⟩ := hdr4_cells d7.zH; have D7 := Lib.hid d7; clear hc7 d7))
      all_goals
        obtain ⟨z1, z2⟩ := four_ret (y0 := .int .i64 0) (y1 := .int .i64 0) (y2 := .string ⟨#[]⟩) (y3 := .slice none 0 0) D7.out.zH
        generalize ((((w7.setCell _ _).setCell _ _).setCell _ _).setCell _ _) = wz at z1 z2 ⊢
        obtain ⟨y0, y1, y2, y3, _⟩ := hdr4_cells z1
        refine bodyPost_ret (v := .tuple #[.agg #[.int .i64 0, .int .i64 0, .string ⟨#[]⟩, .slice none 0 0], .int .i64 2]) (by simp [results, Tryz.results87, go_sem, y0, y1, y2, y3]) rfl ?_
        exact dec_zero hd.out (D7.out.stored z2)
end Go.Proofs.YtcpgbekcbaelpaaGreatDoor
/- Memory in plain words: what some blocks own may turn, all else stays. -/
namespace Go.Proofs.YtcpgbekcbaelpaaGreatDoor
open Go.RowKit Go.Maps Wr
set_option linter.unusedVariables false
set_option linter.unusedSimpArgs false
structure Turn (M : Nat → Prop) (w w' : World) : Prop where
  os : w'.os = w.os
  tape : w'.tape = w.tape
  output : w'.output = w.output
  size : w.heap.size ≤ w'.heap.size
  block : ∀ k, k < w.heap.size → ¬ M k → w'.heap[k]? = w.heap[k]?
def Gro (M : Nat → Prop) (n : Nat) : Nat → Prop := fun k => M k ∨ n ≤ k
theorem Gro.old {M : Nat → Prop} {n k : Nat} (h : M k) : Gro M n k := .inl h
theorem Gro.new {M : Nat → Prop} {n k : Nat} (h : n ≤ k) : Gro M n k := .inr h
theorem Gro.gro {M : Nat → Prop} {n m k : Nat} (hn : n ≤ m) (h : Gro (Gro M n) m k) : Gro M n k := by
  rcases h with (h | h) | h
  · exact .inl h
  · exact .inr h
  · exact .inr (Nat.le_trans hn h)
theorem Gro.mono {M M' : Nat → Prop} {n k : Nat} (hM : ∀ k, M k → M' k) (h : Gro M n k) : Gro M' n k := h.imp (hM k) id
theorem Turn.refl (M : Nat → Prop) (w : World) : Turn M w w := ⟨rfl, rfl, rfl, Nat.le_refl _, fun _ _ _ => rfl⟩
theorem Turn.trans {M M' : Nat → Prop} {a b c : World} (h : Turn M a b) (k : Turn M' b c) (hM : ∀ i, M' i → M i ∨ a.heap.size ≤ i) : Turn M a c :=
  ⟨k.os.trans h.os, k.tape.trans h.tape, k.output.trans h.output, Nat.le_trans h.size k.size, fun i hi hn =>
    (k.block i (Nat.lt_of_lt_of_le hi h.size) (fun e => by rcases hM i e with e | e; exact hn e; omega)).trans (h.block i hi hn)⟩
theorem Turn.then {M : Nat → Prop} {a b c : World} (h : Turn M a b) (k : Turn (Gro M a.heap.size) b c) : Turn M a c := h.trans k (fun _ h => h)
theorem Turn.mono {M M' : Nat → Prop} {a b : World} (h : Turn M a b) (hM : ∀ k, M k → M' k) : Turn M' a b :=
  ⟨h.os, h.tape, h.output, h.size, fun i hi hn => h.block i hi (fun e => hn (hM i e))⟩
theorem Turn.of_below {M : Nat → Prop} {a b : World} (h : Below a.heap.size a b) : Turn M a b := ⟨h.os, h.tape, h.output, h.size, fun i hi _ => h.block i hi⟩
theorem Turn.thenBelow {M : Nat → Prop} {a b c : World} (h : Turn M a b) (k : Below b.heap.size b c) : Turn M a c := h.trans (M' := M) (Turn.of_below k) (fun _ h => .inl h)
theorem Turn.of_chg {M : Nat → Prop} {F : List Nat} {a b : World} (h : Chg F a b) (hF : ∀ k ∈ F, M k ∨ a.heap.size ≤ k) : Turn M a b :=
  ⟨h.os, h.tape, h.output, h.size, fun i hi hn => h.block i hi (fun e => by rcases hF i e with e | e; exact hn e; omega)⟩
theorem Turn.chg {M : Nat → Prop} {a b : World} (h : Turn M a b) : ∃ F : List Nat, Chg F a b ∧ ∀ k ∈ F, M k := by
  classical
  refine ⟨(List.range a.heap.size).filter (fun k => decide (M k)), ⟨h.os, h.tape, h.output, h.size, fun k hk hn => ?_⟩, fun k hk => ?_⟩
  · refine h.block k hk (fun hm => hn ?_)
    rw [List.mem_filter]
    exact ⟨List.mem_range.2 hk, by simpa using hm⟩
  · rw [List.mem_filter] at hk
    simpa using hk.2
theorem Turn.below {M : Nat → Prop} {a b : World} {N : Nat} (h : Turn M a b) (hN : N ≤ a.heap.size) (hM : ∀ k, M k → N ≤ k) : Below N a b :=
  ⟨h.os, h.tape, h.output, h.size, fun k hk => h.block k (by omega) (fun e => by have := hM k e; omega)⟩
theorem Turn.cell {M : Nat → Prop} {a b : World} (h : Turn M a b) {p : Addr} (hb : p.block < a.heap.size) (hp : ¬ M p.block) : b.cell? p = a.cell? p := World.cell?_of_block (w := a) (h.block p.block hb hp)
theorem Turn.setCell {M : Nat → Prop} {a b : World} (h : Turn M a b) {p : Addr} (hp : M p.block ∨ a.heap.size ≤ p.block) (u : Value) : Turn M a (b.setCell p u) :=
  ⟨h.os, h.tape, h.output, by have := h.size; simpa using this, fun i hi hn =>
    (Below.heap_setCell b p u i (fun e => by rcases hp with hp | hp; exact hn (e ▸ hp); omega)).trans (h.block i hi hn)⟩
theorem Turn.alloc {M : Nat → Prop} {a b : World} (h : Turn M a b) (o : Obj) : Turn M a (b.alloc o) :=
  ⟨h.os, h.tape, h.output, by have := h.size; simp; omega, fun i hi hn => (Below.heap_alloc b o i (Nat.lt_of_lt_of_le hi h.size)).trans (h.block i hi hn)⟩
theorem Turn.drew {M : Nat → Prop} {a b : World} (h : Turn M a b) : Turn M a b.drew := ⟨h.os, h.tape, h.output, h.size, h.block⟩
theorem ValIs.turn {w w' : World} {P M : Nat → Prop} {t : VT} {v : Value} (h : ValIs w P t v) (ht : Turn M w w') (hP : ∀ b, P b → b < w.heap.size ∧ ¬ M b) : ValIs w' P t v := by
  obtain ⟨F, hc, hF⟩ := ht.chg
  exact h.chg hc (fun b hb => ⟨(hP b hb).1, fun hf => (hP b hb).2 (hF b hf)⟩)
theorem Row.turn {w w' : World} {M : Nat → Prop} {e : TypeId} {v : Value} {xs : List Value} (h : Row w e v xs) (ht : Turn M w w') (hv : ∀ k, v.ownBlock = some k → ¬ M k) : Row w' e v xs := by
  obtain ⟨F, hc, hF⟩ := ht.chg
  exact h.chg hc (fun k hk hf => hv k hk (hF k hf))
theorem RowZ.turn {w w' : World} {M : Nat → Prop} {e : TypeId} {sz n : Nat} {v : Value} {xs : List Value} (h : RowZ w e sz v n xs) (ht : Turn M w w') (hv : ∀ k, v.ownBlock = some k → ¬ M k) : RowZ w' e sz v n xs := by
  obtain ⟨F, hc, hF⟩ := ht.chg
  exact h.chg hc (fun k hk hf => hv k hk (hF k hf))
theorem VMap.turn {P : Program} {K : TypeId} {w w' : World} {M : Nat → Prop} {b n : Nat} {f : Int → Option Value} (h : VMap P K w b n f) (ht : Turn M w w') (hb : ¬ M b) : VMap P K w' b n f := by
  obtain ⟨F, hc, hF⟩ := ht.chg
  exact h.chg hc (fun hf => hb (hF b hf))
def BIn (w : World) (A : Nat → Prop) (v : Value) (b : List UInt8) : Prop :=
  ∃ ao cap, v = .slice ao b.length cap ∧ b.length ≤ cap ∧ cap ≤ maxLen ∧ (ao = none → cap = 0) ∧ ∀ j (h : j < b.length), ∃ g o, ao = some ⟨g, o, none⟩ ∧ g < w.heap.size ∧ A g ∧ w.cell? ⟨g, o + j, none⟩ = some (.int .u8 ((b[j]).toNat : Int))
theorem BIn.bytesIn {w : World} {A : Nat → Prop} {v : Value} {b : List UInt8} (h : BIn w A v b) : BytesIn w v b := by
  obtain ⟨ao, cap, h1, h2, h3, h4, h5⟩ := h
  refine ⟨ao, cap, h1, h2, h3, h4, fun j hj => ?_⟩
  obtain ⟨g, o, e0, e1, _, e2⟩ := h5 j hj
  exact ⟨g, o, e0, e1, e2⟩
theorem BIn.mono {w : World} {A A' : Nat → Prop} {v : Value} {b : List UInt8} (h : BIn w A v b) (hA : ∀ k, k < w.heap.size → A k → A' k) : BIn w A' v b := by
  obtain ⟨ao, cap, h1, h2, h3, h4, h5⟩ := h
  refine ⟨ao, cap, h1, h2, h3, h4, fun j hj => ?_⟩
  obtain ⟨g, o, e0, e1, ea, e2⟩ := h5 j hj
  exact ⟨g, o, e0, e1, hA g e1 ea, e2⟩
theorem BIn.turn {w w' : World} {A M : Nat → Prop} {v : Value} {b : List UInt8} (h : BIn w A v b) (ht : Turn M w w') (hA : ∀ k, A k → ¬ M k) : BIn w' A v b := by
  obtain ⟨ao, cap, h1, h2, h3, h4, h5⟩ := h
  refine ⟨ao, cap, h1, h2, h3, h4, fun j hj => ?_⟩
  obtain ⟨g, o, e0, e1, ea, e2⟩ := h5 j hj
  exact ⟨g, o, e0, Nat.lt_of_lt_of_le e1 ht.size, ea, (ht.cell (p := ⟨g, o + j, none⟩) e1 (hA g ea)).trans e2⟩
theorem BIn.below {w w' : World} {A : Nat → Prop} {v : Value} {b : List UInt8} (h : BIn w A v b) (hb : Below w.heap.size w w') : BIn w' A v b := h.turn (M := fun _ => False) (Turn.of_below hb) (fun _ _ h => h)
theorem BIn.of_row {w : World} {N : Nat} {A : Nat → Prop} {v : Value} {b : List UInt8} (h : ByteRow w N v b) (hA : ∀ k, N ≤ k → A k) : BIn w A v b := by
  obtain ⟨ao, cap, h1, h2, h3, h4, h5⟩ := row_cells h
  refine ⟨ao, cap, h1, h2, h3, h4, fun j hj => ?_⟩
  obtain ⟨g, e0, e1, e2, e3⟩ := h5 j hj
  exact ⟨g, 0, e0, e2, hA g e1, by rw [Nat.zero_add]; exact e3⟩
theorem ByteRow.turn {w w' : World} {M : Nat → Prop} {N : Nat} {v : Value} {b : List UInt8} (h : ByteRow w N v b) (ht : Turn M w w') (hv : ∀ k, N ≤ k → k < w.heap.size → ¬ M k) : ByteRow w' N v b :=
  ⟨h.1.turn ht (fun k hk => hv k (h.2 k hk) (h.1.lt hk)), h.2⟩
end Go.Proofs.YtcpgbekcbaelpaaGreatDoor
/- Layer 4: a disk in memory. -/
namespace Go.Proofs.YtcpgbekcbaelpaaGreatDoor
open Go.RowKit Go.Maps Wr
set_option linter.unusedVariables false
set_option linter.unusedSimpArgs false
def SecIs (w : World) (A : Nat → Prop) (v : Value) (b : List UInt8) : Prop := (v = .slice none 0 0 ∧ b = St.zeros 512) ∨ (b.length = 512 ∧ BIn w A v b)
theorem SecIs.len {w : World} {A : Nat → Prop} {v : Value} {b : List UInt8} (h : SecIs w A v b) : b.length = 512 := by
  rcases h with ⟨_, rfl⟩ | ⟨h, _⟩
  · exact List.length_replicate ..
  · exact h
theorem SecIs.mono {w : World} {A A' : Nat → Prop} {v : Value} {b : List UInt8} (h : SecIs w A v b) (hA : ∀ k, k < w.heap.size → A k → A' k) : SecIs w A' v b := h.imp id fun ⟨a, b⟩ => ⟨a, b.mono hA⟩
theorem SecIs.turn {w w' : World} {A M : Nat → Prop} {v : Value} {b : List UInt8} (h : SecIs w A v b) (ht : Turn M w w') (hA : ∀ k, A k → ¬ M k) : SecIs w' A v b := h.imp id fun ⟨a, b⟩ => ⟨a, b.turn ht hA⟩
abbrev WT := Nat × Value × List UInt8
def wtCells (ws : List WT) : List Value := ws.flatMap fun x => [.int .i64 (x.1 : Int), x.2.1]
def nowV (ws : List WT) (i : Int) : Option Value := (ws.reverse.find? fun x => (x.1 : Int) == i).map (·.2.1)
structure DkIn (w : World) (g gl cl gm : Nat) (vw : Value) (sx : Int) (vs : List Value) (ws : List WT) (D : St.Dk) (M R : Nat → Prop) : Prop where
  blk : w.heap[g]? = some (.cells #[.slice (some ⟨gl, 0, none⟩) vs.length cl, .map (some gm), vw, .int .i64 D.left, .bool D.off, .int .i64 sx] 133 (0, 0))
  row : Row w 44 (.slice (some ⟨gl, 0, none⟩) vs.length cl) vs
  secs : ∀ i v, vs[i]? = some v → SecIs w (fun k => R k ∧ k ≠ g ∧ k ≠ gl ∧ k ≠ gm ∧ vw.ownBlock ≠ some k) v (D.last.getD i [])
  len : D.last.length = vs.length
  big : vs.length ≤ 65536
  wts : RowZ w 191 2 vw ws.length (wtCells ws)
  map : VMap Tryz.prog 3 w gm ws.length (nowV ws)
  was : ∀ x ∈ ws, x.1 < vs.length ∧ SecIs w (fun k => R k ∧ k ≠ g ∧ k ≠ gl ∧ k ≠ gm ∧ vw.ownBlock ≠ some k) x.2.1 x.2.2
  wseq : D.waits = ws.map fun x => (x.1, x.2.2)
  lwf : (Lit.int .i64 D.left).wf = true
  m0 : M g
  m1 : M gl
  m2 : M gm
  m3 : ∀ k, vw.ownBlock = some k → M k
  d0 : g ≠ gl
  d1 : g ≠ gm
  d2 : gl ≠ gm
  d3 : vw.ownBlock ≠ some g
  d4 : vw.ownBlock ≠ some gl
  d5 : vw.ownBlock ≠ some gm
def DkAt (w : World) (g : Nat) (D : St.Dk) (M R : Nat → Prop) : Prop := ∃ gl cl gm vw sx vs ws, DkIn w g gl cl gm vw sx vs ws D M R
theorem DkAt.turn {w w' : World} {g : Nat} {D : St.Dk} {M R Q : Nat → Prop} (h : DkAt w g D M R) (ht : Turn Q w w') (hM : ∀ k, M k → ¬ Q k) (hR : ∀ k, R k → ¬ Q k) : DkAt w' g D M R := by
  obtain ⟨gl, cl, gm, vw, sx, vs, ws, h⟩ := h
  exact ⟨gl, cl, gm, vw, sx, vs, ws, { h with
    blk := (ht.block _ (lt_of_block h.blk) (hM _ h.m0)).trans h.blk
    row := h.row.turn ht (fun k hk => by cases hk; exact hM _ h.m1)
    secs := fun i v hv => (h.secs i v hv).turn ht (fun k hk => hR k hk.1)
    wts := h.wts.turn ht (fun k hk => hM k (h.m3 k hk))
    map := h.map.turn ht (hM _ h.m2)
    was := fun x hx => ⟨(h.was x hx).1, (h.was x hx).2.turn ht (fun k hk => hR k hk.1)⟩ }⟩
theorem DkAt.below {w w' : World} {g : Nat} {D : St.Dk} {M R : Nat → Prop} (h : DkAt w g D M R) (hb : Below w.heap.size w w') : DkAt w' g D M R := h.turn (Q := fun _ => False) (Turn.of_below hb) (fun _ _ h => h) (fun _ _ h => h)
theorem DkAt.mono {w : World} {g : Nat} {D : St.Dk} {M R M' R' : Nat → Prop} (h : DkAt w g D M R) (hM : ∀ k, k < w.heap.size → M k → M' k) (hR : ∀ k, k < w.heap.size → R k → R' k) : DkAt w g D M' R' := by
  obtain ⟨gl, cl, gm, vw, sx, vs, ws, h⟩ := h
  exact ⟨gl, cl, gm, vw, sx, vs, ws, { h with
    secs := fun i v hv => (h.secs i v hv).mono (fun k hl hk => ⟨hR k hl hk.1, hk.2⟩)
    was := fun x hx => ⟨(h.was x hx).1, (h.was x hx).2.mono (fun k hl hk => ⟨hR k hl hk.1, hk.2⟩)⟩
    m0 := hM _ (lt_of_block h.blk) h.m0
    m1 := hM _ (h.row.lt rfl) h.m1
    m2 := hM _ h.map.lt h.m2
    m3 := fun k hk => hM _ (h.wts.lt hk) (h.m3 k hk) }⟩
theorem DkAt.lt {w : World} {g : Nat} {D : St.Dk} {M R : Nat → Prop} (h : DkAt w g D M R) : g < w.heap.size ∧ M g := by
  obtain ⟨gl, cl, gm, vw, sx, vs, ws, h⟩ := h
  exact ⟨lt_of_block h.blk, h.m0⟩
theorem DkAt.len {w : World} {g : Nat} {D : St.Dk} {M R : Nat → Prop} (h : DkAt w g D M R) : D.last.length ≤ 65536 := by
  obtain ⟨gl, cl, gm, vw, sx, vs, ws, h⟩ := h
  rw [h.len]; exact h.big
theorem cells6 {w : World} {b : Nat} {x0 x1 x2 x3 x4 x5 : Value} {T : TypeId} (h : w.heap[b]? = some (.cells #[x0, x1, x2, x3, x4, x5] T (0, 0))) : w.cell? ⟨b, 0, none⟩ = some x0 ∧ w.cell? ⟨b, 1, none⟩ = some x1 ∧ w.cell? ⟨b, 2, none⟩ = some x2 ∧ w.cell? ⟨b, 3, none⟩ = some x3 ∧ w.cell? ⟨b, 4, none⟩ = some x4 ∧ w.cell? ⟨b, 5, none⟩ = some x5 ∧ (∀ j, w.frozen? ⟨b, j, none⟩ = false) :=
  ⟨by simp [World.cell?, h], by simp [World.cell?, h], by simp [World.cell?, h], by simp [World.cell?, h], by simp [World.cell?, h], by simp [World.cell?, h], fun j => by simp [World.frozen?, h]⟩
theorem blk_alloc {w : World} {b : Nat} {x : Obj} (h : w.heap[b]? = some x) (o : Obj) : (w.alloc o).heap[b]? = some x := (Below.heap_alloc w o b (lt_of_block h)).trans h
theorem cells6A {w : World} {b : Nat} {x0 x1 x2 x3 x4 x5 : Value} {T : TypeId} (h : w.heap[b]? = some (.cells #[x0, x1, x2, x3, x4, x5] T (0, 0))) : (∀ o, (w.alloc o).cell? ⟨b, 0, none⟩ = some x0) ∧ (∀ o, (w.alloc o).cell? ⟨b, 1, none⟩ = some x1) ∧ (∀ o, (w.alloc o).cell? ⟨b, 2, none⟩ = some x2) ∧ (∀ o, (w.alloc o).cell? ⟨b, 3, none⟩ = some x3) ∧ (∀ o, (w.alloc o).cell? ⟨b, 4, none⟩ = some x4) ∧ (∀ o, (w.alloc o).cell? ⟨b, 5, none⟩ = some x5) ∧ (∀ o j, (w.alloc o).frozen? ⟨b, j, none⟩ = false) :=
  ⟨fun o => (cells6 (blk_alloc h o)).1, fun o => (cells6 (blk_alloc h o)).2.1, fun o => (cells6 (blk_alloc h o)).2.2.1, fun o => (cells6 (blk_alloc h o)).2.2.2.1, fun o => (cells6 (blk_alloc h o)).2.2.2.2.1, fun o => (cells6 (blk_alloc h o)).2.2.2.2.2.1, fun o => (cells6 (blk_alloc h o)).2.2.2.2.2.2⟩
theorem DkIn.power {w w' : World} {g gl cl gm : Nat} {vw : Value} {sx : Int} {vs : List Value} {ws : List WT} {D : St.Dk} {M R : Nat → Prop} (h : DkIn w g gl cl gm vw sx vs ws D M R) (hc : Chg [g] w w') (l : Int) (o : Bool) (sx' : Int) (hl : (Lit.int .i64 l).wf = true) (st : Int)
    (hb : w'.heap[g]? = some (.cells #[.slice (some ⟨gl, 0, none⟩) vs.length cl, .map (some gm), vw, .int .i64 l, .bool o, .int .i64 sx'] 133 (0, 0))) :
    DkIn w' g gl cl gm vw sx' vs ws { D with left := l, off := o, steps := st } M R := by
  have ht : Turn (fun k => k = g) w w' := Turn.of_chg hc (fun k hk => .inl (by simpa using hk))
  exact { h with
    blk := hb
    row := h.row.turn ht (fun k hk => by cases hk; exact fun e => h.d0 e.symm)
    secs := fun i v hv => (h.secs i v hv).turn ht (fun k hk => hk.2.1)
    wts := h.wts.turn ht (fun k hk e => h.d3 (by rw [hk, e]))
    map := h.map.turn ht (fun e => h.d1 e.symm)
    was := fun x hx => ⟨(h.was x hx).1, (h.was x hx).2.turn ht (fun k hk => hk.2.1)⟩
    lwf := hl }
end Go.Proofs.YtcpgbekcbaelpaaGreatDoor
/- Rows of slices of bytes that grow. -/
namespace Go.Proofs.YtcpgbekcbaelpaaGreatDoor
open Go.RowKit Go.Maps Wr
set_option linter.unusedVariables false
set_option linter.unusedSimpArgs false
def RBs (w : World) (N : Nat) (v : Value) (rs : List (List UInt8)) : Prop :=
  ∃ vs, Row w 44 v vs ∧ (∀ k, v.ownBlock = some k → N ≤ k) ∧ vs.length = rs.length ∧ ∀ (i : Nat) (x : Value) (b : List UInt8), vs[i]? = some x → rs[i]? = some b → BIn w (fun k => N ≤ k ∧ v.ownBlock ≠ some k) x b
theorem RBs.nil (w : World) (N : Nat) : RBs w N (.slice none 0 0) [] := ⟨[], Row.nil _ _, fun k h => by simp [Value.ownBlock] at h, rfl, fun i x b h => by simp at h⟩
theorem RBs.turn {w w' : World} {M : Nat → Prop} {N : Nat} {v : Value} {rs : List (List UInt8)} (h : RBs w N v rs) (ht : Turn M w w') (hM : ∀ k, N ≤ k → k < w.heap.size → ¬ M k) : RBs w' N v rs := by
  obtain ⟨vs, h1, h2, h3, h4⟩ := h
  refine ⟨vs, h1.turn ht (fun k hk => hM k (h2 k hk) (h1.lt hk)), h2, h3, fun i x b hx hb => ?_⟩
  obtain ⟨ao, cap, e1, e2, e3, e4, e5⟩ := h4 i x b hx hb
  refine ⟨ao, cap, e1, e2, e3, e4, fun j hj => ?_⟩
  obtain ⟨g, o, f1, f2, f3, f4⟩ := e5 j hj
  exact ⟨g, o, f1, Nat.lt_of_lt_of_le f2 ht.size, f3, (ht.cell (p := ⟨g, o + j, none⟩) f2 (hM g f3.1 f2)).trans f4⟩
theorem RBs.below {w w' : World} {N : Nat} {v : Value} {rs : List (List UInt8)} (h : RBs w N v rs) (hb : Below w.heap.size w w') : RBs w' N v rs := h.turn (M := fun _ => False) (Turn.of_below hb) (fun _ _ _ h => h)
theorem RBs.mono {w : World} {N N' : Nat} {v : Value} {rs : List (List UInt8)} (h : RBs w N v rs) (hN : N' ≤ N) : RBs w N' v rs := by
  obtain ⟨vs, h1, h2, h3, h4⟩ := h
  exact ⟨vs, h1, fun k hk => Nat.le_trans hN (h2 k hk), h3, fun i x b hx hb => (h4 i x b hx hb).mono (fun k _ hk => ⟨Nat.le_trans hN hk.1, hk.2⟩)⟩
theorem RBs.form {w : World} {N : Nat} {v : Value} {rs : List (List UInt8)} (h : RBs w N v rs) : ∃ ao cap, v = .slice ao rs.length cap ∧ rs.length ≤ cap ∧ cap ≤ maxLen ∧ (rs ≠ [] → ∃ g, ao = some ⟨g, 0, none⟩ ∧ g < w.heap.size) := by
  obtain ⟨vs, h1, h2, h3, h4⟩ := h
  obtain ⟨_, hr⟩ := h1
  rcases hr with ⟨hv, hn⟩ | ⟨g, cap, cur, hv, hb1, hg, hn, hm, hrest⟩
  · refine ⟨none, 0, by rw [hv, ← h3, hn], by omega, Nat.zero_le _, fun hne => ?_⟩
    have : rs.length = 0 := by omega
    exact absurd (List.length_eq_zero_iff.1 this) hne
  · exact ⟨some ⟨g, 0, none⟩, cap, by rw [hv, h3], by omega, hm, fun _ => ⟨g, rfl, (Array.getElem?_eq_some_iff.1 hg).1⟩⟩
theorem RBs.own {w : World} {N : Nat} {v : Value} {rs : List (List UInt8)} (h : RBs w N v rs) {k : Nat} (hk : v.ownBlock = some k) : N ≤ k ∧ k < w.heap.size := by
  obtain ⟨vs, h1, h2, h3, h4⟩ := h
  exact ⟨h2 k hk, h1.lt hk⟩
theorem RBs.at {w : World} {N : Nat} {g n cap : Nat} {rs : List (List UInt8)} (h : RBs w N (.slice (some ⟨g, 0, none⟩) n cap) rs) {i : Nat} {b : List UInt8} (hb : rs[i]? = some b) : ∃ x, w.cell? ⟨g, i, none⟩ = some x ∧ BIn w (fun k => N ≤ k ∧ k ≠ g) x b := by
  obtain ⟨vs, h1, h2, h3, h4⟩ := h
  have hi : i < vs.length := by rw [h3]; exact (List.getElem?_eq_some_iff.1 hb).1
  refine ⟨vs[i], (h1.cellAt i hi).trans (List.getElem?_eq_getElem hi), (h4 i _ b (List.getElem?_eq_getElem hi) hb).mono (fun k _ hk => ⟨hk.1, fun e => hk.2 (by rw [e]; rfl)⟩)⟩
theorem RBs.app {wr : World} {N : Nat} {v x : Value} {rs : List (List UInt8)} {b : List UInt8} (h : RBs wr N v rs) (hN : N ≤ wr.heap.size) (hx : BIn wr (fun k => N ≤ k ∧ v.ownBlock ≠ some k) x b) :
    ∃ xs, Row wr 44 v xs ∧ xs.length = rs.length ∧ ∀ (w1 : World) (g cap : Nat) (o : Obj), Row w1 44 (.slice (some ⟨g, 0, none⟩) (xs.length + 1) cap) (xs ++ [x]) → (wr.alloc o).grownBy w1 v.ownBlock → (v.ownBlock = some g ∨ g = (wr.alloc o).heap.size) → RBs w1 N (.slice (some ⟨g, 0, none⟩) (xs.length + 1) cap) (rs ++ [b]) ∧ Turn (fun k => v.ownBlock = some k) wr w1 := by
  obtain ⟨xs, h1, h2, h3, h4⟩ := h
  refine ⟨xs, h1, h3, fun w1 g cap o hr hg hl => ?_⟩
  have hc : Chg v.ownBlock.toList wr w1 := ((Chg.refl _ wr).alloc o).grown hg (fun k hk => .inl (by simp [hk]))
  have ht : Turn (fun k => v.ownBlock = some k) wr w1 := Turn.of_chg hc (fun k hk => .inl (by simpa using hk))
  have hz : (wr.alloc o).heap.size = wr.heap.size + 1 := by simp
  have key : ∀ {y : Value} {c : List UInt8}, BIn wr (fun k => N ≤ k ∧ v.ownBlock ≠ some k) y c → BIn w1 (fun k => N ≤ k ∧ (Value.slice (some ⟨g, 0, none⟩) (xs.length + 1) cap).ownBlock ≠ some k) y c := fun {y c} hy => by
    obtain ⟨ao, cp, e1, e2, e3, e4, e5⟩ := hy
    refine ⟨ao, cp, e1, e2, e3, e4, fun j hj => ?_⟩
    obtain ⟨q, o', f1, f2, f3, f4⟩ := e5 j hj
    refine ⟨q, o', f1, Nat.lt_of_lt_of_le f2 ht.size, ⟨f3.1, fun e => ?_⟩, (ht.cell (p := ⟨q, o' + j, none⟩) f2 f3.2).trans f4⟩
    simp only [Value.ownBlock, Option.some.injEq] at e
    rcases hl with hl | hl
    · exact f3.2 (e ▸ hl)
    · omega
  refine ⟨⟨xs ++ [x], hr, fun k hk => ?_, by rw [List.length_append, List.length_append, h3]; rfl, fun i y c hy hc' => ?_⟩, ht⟩
  · simp only [Value.ownBlock, Option.some.injEq] at hk
    subst hk
    rcases hl with hl | hl
    · exact h2 _ hl
    · omega
  · by_cases hi : i < xs.length
    · rw [List.getElem?_append_left hi] at hy
      rw [List.getElem?_append_left (by omega)] at hc'
      exact key (h4 i y c hy hc')
    · rw [List.getElem?_append_right (by omega)] at hy
      rw [List.getElem?_append_right (by omega)] at hc'
      have h0 : i - xs.length = 0 := by have := (List.getElem?_eq_some_iff.1 hy).1; simp at this; omega
      have h0' : i - rs.length = 0 := by omega
      rw [h0] at hy
      rw [h0'] at hc'
      simp at hy hc'
      subst hy hc'
      exact key hx
end Go.Proofs.YtcpgbekcbaelpaaGreatDoor
