/- Texts as bytes. -/
import Derived.Test.YtofmbpmmgpbdbaaDoorWire2
import Derived.Lib.AppendStr
namespace Go.Proofs.YtofmbpmmgpbdbaaDoor
open Go.RowKit Go.Maps Wr

theorem ByteRow.owns {w : World} {N : Nat} {v : Value} {l : List UInt8} (h : ByteRow w N v l) : w.ownsRow N 5 1 v l.length (bvals l) := by
  obtain ⟨h1, h2⟩ := h
  have hl := bvals_length l
  unfold Row at h1
  rw [hl] at h1
  refine ⟨h1.1, ?_⟩
  rcases h1.2 with hn | ⟨g, cap, cur, rfl, _, rest⟩
  · exact .inl hn
  · exact .inr ⟨g, cap, cur, rfl, h2 g rfl, rest⟩
theorem ByteRow.of {w : World} {N : Nat} {v : Value} {l : List UInt8} {n : Nat} (h : w.ownsRow N 5 1 v n (bvals l)) (hn : n = l.length) : ByteRow w N v l := by
  subst hn
  have hl := bvals_length l
  refine ⟨?_, fun k hk => ?_⟩
  · unfold Row
    rw [hl]
    refine ⟨h.1, ?_⟩
    rcases h.2 with hn | ⟨g, cap, cur, rfl, _, rest⟩
    · exact .inl hn
    · exact .inr ⟨g, cap, cur, rfl, Nat.zero_le _, rest⟩
  · rcases h.2 with ⟨rfl, _⟩ | ⟨g, cap, cur, rfl, hb, rest⟩
    · simp [Value.ownBlock] at hk
    · simp only [Value.ownBlock, Option.some.injEq] at hk; omega
theorem ByteRow.lt {w : World} {N : Nat} {v : Value} {l : List UInt8} (h : ByteRow w N v l) {k : Nat} (hk : v.ownBlock = some k) : k < w.heap.size := h.1.lt hk
/-- New blocks, and turns elsewhere. -/
theorem ByteRow.below {w w' : World} {N : Nat} {v : Value} {l : List UInt8} (h : ByteRow w N v l) (hb : Below w.heap.size w w') : ByteRow w' N v l :=
  ⟨h.1.chg (F := []) ⟨hb.os, hb.tape, hb.output, hb.size, fun i hi _ => hb.block i hi⟩ (fun _ _ => by simp), h.2⟩ 
theorem below_grown {w w' : World} {N : Nat} {v : Value} (hN : N ≤ w.heap.size) (hg : w.grownBy w' v.ownBlock) (hv : ∀ k, v.ownBlock = some k → N ≤ k) : Below N w w' := by
  have hc : Chg v.ownBlock.toList w w' := (Chg.refl _ w).grown hg (fun k hk => .inl (by simp [hk]))
  exact hc.below hN (fun k hk => hv k (by simpa using hk))
theorem strCells_bvals (s : ByteArray) : Lib.strCells s = bvals s.data.toList := by
  unfold Lib.strCells bvals; rfl

set_option maxRecDepth 100000 in
theorem wireStr_any (s : ByteArray) (w : World) (hs : s.size ≤ 1000000000) : Calls Tryd.prog 54 #[.string s] w (RowEnd w w.heap.size (str s.data.toList)) := by
  have hl : s.data.toList.length = s.size := by simp
  have hn := Lib.hid (wireNum_any (s.size : Int) w (by omega) (by omega))
  have hnl := Lib.hid (num_len (n := (s.size : Int)) (by omega) (by omega))
  have HL := Lib.hid hl
  have hs2 : (s.size : Int) ≤ 1000000000 := by omega
  obtain ⟨i0, hi, hz0, hz1, hz2⟩ := info_parts infoB
  clear hl
  go_enter Tryd.func54, Tryd.ntmps54
  go_wp2_with
    (first
     | ((go_at_call 53; refine hn.out.mono ?_; rintro e w5 ⟨v5, rfl, hr5, hb5⟩; have HR := Lib.hid hr5; have HB := Lib.hid hb5; clear hr5 hb5))
     | (at_builtin; (refine Lib.wpList_append_own_string w5 rfl _ _ 29 9 rfl w.heap.size 5 i0 Tryd.underlying29 Tryd.underlying9 hi hz0 hz1 hz2 v5 (num (s.size : Int)).length (bvals (num (s.size : Int))) rfl HR.out.owns s rfl (by have := hnl.out; unfold maxLen; omega) (by have := hnl.out; omega) HB.out.size ?_; intro v6 w6 hr6 hg6 _)))
  go_ret
  refine ⟨v6, rfl, ByteRow.of (n := (num (s.size : Int)).length + s.size) ?_ ?_, HB.out.trans (below_grown HB.out.size hg6 HR.out.2)⟩
  · rw [strCells_bvals, ← bvals_append] at hr6
    unfold str; rw [HL.out]; exact hr6
  · unfold str; rw [List.length_append, HL.out]
end Go.Proofs.YtofmbpmmgpbdbaaDoor
