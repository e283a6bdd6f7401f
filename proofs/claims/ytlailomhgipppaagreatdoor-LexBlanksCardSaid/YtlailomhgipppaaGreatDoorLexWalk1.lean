/- Layer 10: a scanner in memory; more, next, only, bytes. -/
import Derived.Test.YtlailomhgipppaaGreatDoorLexPlain
import Derived.Test.YtlailomhgipppaaGreatDoorMemZ
import Derived.Test.YtlailomhgipppaaGreatDoorByR
import Derived.Test.YtlailomhgipppaaGreatDoorDgt
import Derived.WalkLawsBesides
import Derived.StillTailTactics
namespace Go.Proofs.YtlailomhgipppaaGreatDoor
open Go.RowKit Lx
set_option linter.unusedVariables false
set_option linter.unusedSimpArgs false

/-- A scanner's five cells. -/
def Sc (w : World) (p : Nat) (src : ByteArray) (i : Nat) (q : Pos) (vo : Value) : Prop :=
  w.heap[p]? = some (.cells #[.string src, .int .i64 i, .int .i64 q.1, .int .i64 q.2, vo] 49 (0, 0))
section
variable {w w' : World} {p i : Nat} {src : ByteArray} {q : Pos} {vo : Value}
theorem Sc.lt (h : Sc w p src i q vo) : p < w.heap.size := lt_of_block h
theorem Sc.c0 (h : Sc w p src i q vo) : w.cell? ⟨p, 0, none⟩ = some (.string src) := by unfold Sc at h; simp [World.cell?, h]
theorem Sc.c1 (h : Sc w p src i q vo) : w.cell? ⟨p, 1, none⟩ = some (.int .i64 i) := by unfold Sc at h; simp [World.cell?, h]
theorem Sc.c2 (h : Sc w p src i q vo) : w.cell? ⟨p, 2, none⟩ = some (.int .i64 q.1) := by unfold Sc at h; simp [World.cell?, h]
theorem Sc.c3 (h : Sc w p src i q vo) : w.cell? ⟨p, 3, none⟩ = some (.int .i64 q.2) := by unfold Sc at h; simp [World.cell?, h]
theorem Sc.c4 (h : Sc w p src i q vo) : w.cell? ⟨p, 4, none⟩ = some vo := by unfold Sc at h; simp [World.cell?, h]
theorem Sc.fr (h : Sc w p src i q vo) (k : Nat) : w.frozen? ⟨p, k, none⟩ = false := by unfold Sc at h; simp [World.frozen?, h]
theorem Sc.chg {G : List Nat} (h : Sc w p src i q vo) (hc : Chg G w w') (hp : p ∉ G) : Sc w' p src i q vo := (hc.block p h.lt hp).trans h
theorem Sc.below (h : Sc w p src i q vo) (hb : Below w.heap.size w w') : Sc w' p src i q vo := (hb.block p h.lt).trans h
theorem set_block {cs : Array Value} {t : TypeId} {o : Nat} {u : Value} (h : w.heap[p]? = some (.cells cs t (0, 0))) : (w.setCell ⟨p, o, none⟩ u).heap[p]? = some (.cells (cs.setIfInBounds o u) t (0, 0)) := by
  have hlt := lt_of_block h
  have h' : w.heap[p] = .cells cs t (0, 0) := by simpa [Array.getElem?_eq_getElem hlt] using h
  show (w.heap.modify p _)[p]? = _
  rw [Array.getElem?_eq_getElem (by simpa using hlt), Array.getElem_modify_self, h']
  rfl
theorem chg_set (w : World) (p o : Nat) (u : Value) : Chg [p] w (w.setCell ⟨p, o, none⟩ u) := (Chg.refl [p] w).setCell (.inl (by simp)) u
end
set_option maxRecDepth 100000 in
theorem more_any (w : World) (p i : Nat) (src : ByteArray) (q : Pos) (vo : Value) (h : Sc w p src i q vo) :
    Calls Tryz.prog 13 #[.pointer (some ⟨p, 0, none⟩)] w fun e w' => e = .returned (.bool (decide (i < src.size))) ∧ Below w.heap.size w w' := by
  have c0 := h.c0
  have c1 := h.c1
  clear h
  go_enter Tryz.func13, Tryz.ntmps13
  go_wp2
  go_quiet (fail)
  go_wp2
  go_ret
  exact ⟨by simp, below_drewN (Below.refl _ _) _⟩
set_option maxRecDepth 100000 in
theorem next_any (w : World) (p i : Nat) (src : ByteArray) (q : Pos) (vo : Value) (h : Sc w p src i q vo) (hi : i < src.size) (c : UInt8) (hc : src[i]'hi = c) (hs : src.size ≤ 1000000) (h1 : q.1 ≤ 1000000) (h2 : q.2 ≤ 1000000) :
    Calls Tryz.prog 22 #[.pointer (some ⟨p, 0, none⟩)] w fun e w' => e = .returned (.int .u8 c.toNat) ∧ Sc w' p src (i + 1) (adv q c) vo ∧ Chg [p] w w' := by
  obtain ⟨ln, col⟩ := q
  have c0 := h.c0
  have c1 := h.c1
  have c2 := h.c2
  have c3 := h.c3
  have f1 := h.fr 1
  have f2 := h.fr 2
  have f3 := h.fr 3
  have H := Lib.hid h
  clear h
  by_cases hn : c = 10
  · subst hn
    go_enter Tryz.func22, Tryz.ntmps22
    go_wp2
    go_quiet (fail)
    go_wp2
    go_ret
    refine ⟨by simp, ?_, ?_⟩
    · have h0 : (w.drewN nq).heap[p]? = _ := H.out
      unfold Sc
      rw [set_block (set_block (set_block (set_block h0)))]
      simp [adv]
    · exact ((((((Chg.refl [p] w).drewN _).setCell (.inl (by simp)) _).setCell (.inl (by simp)) _).setCell (.inl (by simp)) _).setCell (.inl (by simp)) _)
  · have hn' : ((c.toNat : Int) == 10) = false := by
      rw [beq_eq_false_iff_ne]
      intro e
      exact hn (UInt8.toNat_inj.1 (by simpa using (by omega : c.toNat = 10)))
    go_enter Tryz.func22, Tryz.ntmps22
    go_wp2
    go_quiet (fail)
    go_wp2
    go_ret
    refine ⟨by simp, ?_, ?_⟩
    · have h0 : (w.drewN nq).heap[p]? = _ := H.out
      unfold Sc
      rw [set_block (set_block h0)]
      simp [adv, hn]
    · exact (((Chg.refl [p] w).drewN _).setCell (.inl (by simp)) _).setCell (.inl (by simp)) _
theorem only_iff (l cs : List UInt8) : (Lib.trimS l cs).isEmpty = l.all (fun c => cs.contains c) := by
  rw [Bool.eq_iff_iff, List.isEmpty_iff, trimS_nil, List.all_eq_true]
set_option maxRecDepth 100000 in
theorem only_any (s cs : ByteArray) (hs : s.size ≤ 1000000) (hcs : cs.size ≤ 1000) (ha : ∀ (j : Nat) (b : UInt8), cs.data.toList[j]? = some b → b.toNat < 128) (w : World) :
    Calls Tryz.prog 33 #[.string s, .string cs] w fun e w' => e = .returned (.bool (s.data.toList.all fun c => cs.data.toList.contains c)) ∧ Below w.heap.size w w' := by
  have HT := Lib.hid (Any.strings_Trim_laid Tryz.lays160 (by kernel_rfl) s cs w (by omega) (by omega) ha)
  have e1 := emp_iff ⟨(Lib.trimS s.data.toList cs.data.toList).toArray⟩
  rw [show (⟨(Lib.trimS s.data.toList cs.data.toList).toArray⟩ : ByteArray).data.toList = Lib.trimS s.data.toList cs.data.toList from rfl, only_iff] at e1
  generalize (⟨(Lib.trimS s.data.toList cs.data.toList).toArray⟩ : ByteArray) = t at HT e1
  generalize (s.data.toList.all fun c => cs.data.toList.contains c) = q at e1 ⊢
  clear ha
  cases q
  · go_enter Tryz.func33, Tryz.ntmps33
    go_wp2_with (go_at_call 42; refine HT.out.mono ?_; rintro e w1 ⟨rfl, hb⟩; have HB := Lib.hid hb; clear hb)
    go_ret
    exact ⟨rfl, HB.out⟩
  · go_enter Tryz.func33, Tryz.ntmps33
    go_wp2_with (go_at_call 42; refine HT.out.mono ?_; rintro e w1 ⟨rfl, hb⟩; have HB := Lib.hid hb; clear hb)
    go_ret
    exact ⟨rfl, HB.out⟩
def BLoop (N : Nat) (w0 : World) (x : Nat) (gk : Nat) (s3 s4 : Value) (wr : World) : Prop :=
  ∃ j : Nat, j ≤ 8 ∧ gk = 8 - j ∧ s4 = .int .i64 (56 - 8 * (j : Int)) ∧ ByteRow wr N s3 ((eight x).take j) ∧ Below N w0 wr ∧ N ≤ wr.heap.size
theorem eight_at (x : Nat) (j : Nat) (hj : j < 8) : (eight x).take (j + 1) = (eight x).take j ++ [UInt8.ofNat (x / 2 ^ (56 - 8 * j))] := by
  have : j = 0 ∨ j = 1 ∨ j = 2 ∨ j = 3 ∨ j = 4 ∨ j = 5 ∨ j = 6 ∨ j = 7 := by omega
  rcases this with rfl | rfl | rfl | rfl | rfl | rfl | rfl | rfl <;> rfl
set_option maxRecDepth 100000 in
set_option maxHeartbeats 1600000 in
theorem bytes_any (x : Nat) (hx : x < 18446744073709551616) (w : World) :
    Calls Tryz.prog 31 #[.int .u64 x] w fun e w' => e = .returned (.string (bytes (eight x))) ∧ Below w.heap.size w w' := by
  go_enter Tryz.func31, Tryz.ntmps31
  go_wp2
  go_loopg [3, 4] 8 (fun gk s3 s4 wr => BLoop w.heap.size w x gk s3 s4 wr)
  case atStart => exact ⟨0, by omega, rfl, rfl, ⟨Row.nil _ _, fun k hk => by simp [Value.ownBlock] at hk⟩, Below.refl _ _, Nat.le_refl _⟩
  case round =>
    obtain ⟨j, hj, rfl, rfl, hr, hb, hN⟩ := hrel
    by_cases hlt : j < 8
    · obtain ⟨k, hk⟩ : ∃ k : Nat, (56 - 8 * (j : Int)) = (k : Int) := ⟨56 - 8 * j, by omega⟩
      have hk2 : k = 56 - 8 * j := by omega
      have HK := Lib.hid hk2
      have HJ := Lib.hid hj
      have h0 : (0 : Int) ≤ (k : Int) := by omega
      have h56 : (k : Int) ≤ 56 := by omega
      rw [hk]
      have HR := Lib.hid hr
      have HB := Lib.hid hb
      have HN := Lib.hid hN
      obtain ⟨ao, cap, rfl, _, _⟩ := HR.out.form
      generalize hn : ((eight x).take j).length = n at *
      have HNR := Lib.hid (new_row wr [UInt8.ofNat (x / 2 ^ k)] #[.int .u8 ((x : Int) / 2 ^ k % 256)] (by simp [bvals, UInt8.toNat_ofNat']) (by simp))
      clear hk hk2 hj hr hb hN hx hn
      go_wp2_with (at_builtin; go_loud (refine wpList_appb (w := wr.alloc (.cells #[.int .u8 ((x : Int) / 2 ^ k % 256)] 5)) rfl _ _ rfl (v := .slice ao n cap) (vx := .slice (some ⟨wr.heap.size, 0, none⟩) 1 1) rfl (HR.out.below ((Below.refl _ _).alloc (Nat.le_refl _) _)) rfl HNR.out (by simp) (by have := HN.out; simp; omega) (by have := HJ.out; simp [eight]; omega) ?_); intro v' w1 hr1 hs1; have HR1 := Lib.hid hr1; have HS1 := Lib.hid hs1; clear hr1 hs1)
      go_roundg (8 - (j + 1))
      case measure => have := HJ.out; omega
      case rel =>
        have := HJ.out
        have hw1 : Below w.heap.size wr w1 := by
          have h1 : Chg (Value.slice ao n cap).ownBlock.toList wr (wr.alloc (.cells #[.int .u8 ((x : Int) / 2 ^ k % 256)] 5)) := (Chg.refl _ _).alloc _
          exact (h1.below HN.out (fun i hi => HR.out.2 i (by simpa using hi))).trans (HS1.out.below (by have := HN.out; simp; omega) HR.out.2)
        exact ⟨j + 1, by omega, by omega, by have := HK.out; congr 1; omega, by rw [eight_at x j (by omega), ← HK.out]; exact HR1.out, HB.out.trans hw1, Nat.le_trans HN.out hw1.size⟩
    · have HR := Lib.hid hr
      have HB := Lib.hid hb
      have HN := Lib.hid hN
      obtain rfl : j = 8 := by omega
      clear hj hr hb hN hlt hx
      have HC := Lib.hid (run_row_str HR.out (by simp [eight]))
      have hc := HC.out
      go_wp2
      go_ret
      exact ⟨rfl, HB.out⟩
end Go.Proofs.YtlailomhgipppaaGreatDoor
