/- What the calls of a heap come to, eleventh part: Raw without room, or with what is no kind; Bytes. -/
import Derived.Test.YtlbiapgikkjooaaRaw
import Derived.Test.YtlbiapgikkjooaaMine
import Derived.Laws.IdiomStrings
namespace Go.Proofs.Ytlbiapgikkjooaa
open Go.RowKit Go.Maps Hp
set_option linter.unusedSimpArgs false
set_option linter.unusedVariables false
set_option linter.unusedSectionVars false

section
variable {A : AH} {φ : Nat → Nat} {w w' : World} {p bp np : Nat} {vc vs : Value} {cells stack : List Int} {pins : Int → Option Int}

set_option maxRecDepth 100000 in
theorem raw_full (h : HeapIs w p bp np vc vs A.limit cells stack pins) (hrep : Rep A φ cells stack pins) (hlim : A.limit ≤ 4194304) (hst : stack.length < 1000000000) (hnp : np < 1000000000) (kind : Nat) (s : ByteArray) (hk : kind ≤ 1000) (hs : s.size ≤ 30000000) (hroom : ¬ A.live + (1 + (s.size + 7) / 8) ≤ A.limit) :
    Calls Try.prog 26 #[.pointer (some ⟨p, 0, none⟩), .int .i64 kind, .string s] w (PutEnd A w p bp np vc vs (rawOb kind s.data.toList) 0) := by
  have hsz : s.data.toList.length = s.size := by simp
  have RM := room_any h hrep hlim hst hnp (1 + (s.size + 7) / 8) (by omega)
  have HD := head_is_raw kind s.data.toList hk (by omega)
  have ND : ∀ w, Calls Try.prog 50 #[.int .i64 ((s.size : Int) * 2048 + 1024 + (kind : Int))] w fun e w' => e = .returned (.int .i64 (((s.size + 7) / 8 : Nat) : Int)) ∧ w = w' := fun w => by
    have := need_raw _ _ HD rfl w
    rw [rawOb_head, hsz] at this
    simp only [rawOb] at this
    rwa [hsz] at this
  clear h hrep
  have hk0 : 0 ≤ (kind : Int) := by omega
  have hk1 : (kind : Int) ≤ 1000 := by omega
  have hs1 : (s.size : Int) ≤ 30000000 := by omega
  have HRM := Lib.hid hroom
  have HSZ := Lib.hid hsz
  have hor := head_or_raw s.size kind (by omega) (by omega)
  obtain ⟨hd, hhd⟩ : ∃ hd : Int, hd = (s.size : Int) * 2048 + 1024 + (kind : Int) := ⟨_, rfl⟩
  obtain ⟨nc, hnc⟩ : ∃ nc : Nat, nc = (s.size + 7) / 8 := ⟨_, rfl⟩
  rw [← hhd] at hor ND
  rw [← hnc] at ND RM HRM
  have hnc1 : nc ≤ 4000000 := by omega
  have RM' : Calls Try.prog 46 #[.pointer (some ⟨p, 0, none⟩), .int .i64 (1 + (nc : Int))] w (RoomEnd A w p bp np vc vs (1 + nc)) := by
    have e1 : (1 : Int) + (nc : Int) = ((1 + nc : Nat) : Int) := by omega
    rw [e1]; exact RM
  have RM2 := Lib.hid RM'
  have NDD := Lib.hid ND
  have HNC := Lib.hid hnc
  clear RM RM' ND hroom hst hk hsz HD hhd hnc
  go_enter Try.func26, Try.ntmps26
  go_wp2_with
    (first
    | ((go_at_call 50; refine (NDD.out _).mono ?_; rintro e w' ⟨rfl, rfl⟩))
    | ((go_at_call 46; refine RM2.out.mono ?_; rintro e w' ⟨vc', φ', cells', stack', pins', rfl, hH, hR, hle, hch, hwi⟩; rw [if_neg HRM.out];
            have HH := Lib.hid hH; have HR := Lib.hid hR; have HC := Lib.hid hch; have HW := Lib.hid hwi; clear hH hR hle hch hwi)))
  go_ret
  have hz : (rawOb kind s.data.toList).size = 1 + nc := by rw [rawOb_size, HSZ.out, HNC.out]
  exact ⟨vc', _, φ', cells', stack', pins', A, by rw [hz, if_neg HRM.out]; rfl, by rw [hz, if_neg HRM.out], HH.out, HR.out, HC.out, HW.out⟩

theorem raw_arg (kind : Int) (s : ByteArray) (hbad : kind < 0 ∨ 1000 < kind) :
    Calls Try.prog 26 #[.pointer (some ⟨p, 0, none⟩), .int .i64 kind, .string s] w fun e w' => e = .returned (.int .i64 1) ∧ w = w' := by
  rcases hbad with hb | hb
  all_goals
    go_enter Try.func26, Try.ntmps26
    go_wp2
    all_goals first | (go_ret; exact ⟨rfl, rfl⟩) | (exfalso; omega)
end

section
variable {N m : Nat} {w0 w : World} {p : Nat} {A : AH} {φ : Nat → Nat}
theorem mine_raw (h : Mine N w0 p A φ m w) (hst : A.stack.length < 1000000000) (hm : m < 1000000000) {K : Int} {v : Int} (kind : Nat) (s : ByteArray) (hK : K = kind) (hk : kind ≤ 1000) (hs : s.size ≤ 30000000) {B : AH} (hB : B = if A.live + (1 + (s.size + 7) / 8) ≤ A.limit then A.raw kind s.data.toList else A) (hv : v = if A.live + (1 + (s.size + 7) / 8) ≤ A.limit then 0 else 14) :
    Calls Try.prog 26 #[.pointer (some ⟨p, 0, none⟩), .int .i64 K, .string s] w (Mixed N w0 p B m (.int .i64 v)) := by
  subst hK hB hv
  obtain ⟨F, ⟨bp, np, vc, vs, cells, stack, pins, h1, h2, rfl, h4, h5⟩, h6, h7, h8⟩ := h
  have hst' : stack.length < 1000000000 := by rw [h2.stack, List.length_map]; exact hst
  have hz : (rawOb kind s.data.toList).size = 1 + (s.size + 7) / 8 := by rw [rawOb_size]; simp
  have key : Calls Try.prog 26 #[.pointer (some ⟨p, 0, none⟩), .int .i64 kind, .string s] w (PutEnd A w p bp np vc vs (rawOb kind s.data.toList) 0) := by
    by_cases hroom : A.live + (1 + (s.size + 7) / 8) ≤ A.limit
    · exact raw_room h1 h2 h5 hst' (by omega) kind s hk hs hroom
    · exact raw_full h1 h2 h5 hst' (by omega) kind s hk hs hroom
  refine key.mono fun e w' he => ?_
  have := (he.at h4 h5).mixed h6 h7 h8
  rw [hz] at this
  exact this
theorem mine_raws (h : Mine N w0 p A φ m w) (hst : A.stack.length < 1000000000) (hm : m < 1000000000) {K : Int} (kind : Nat) (s : ByteArray) (hK : K = kind) (hk : kind ≤ 1000) (hs : s.size ≤ 30000000) (hroom : A.live + (1 + (s.size + 7) / 8) ≤ A.limit) {B : AH} (hB : B = A.raw kind s.data.toList) :
    Calls Try.prog 26 #[.pointer (some ⟨p, 0, none⟩), .int .i64 K, .string s] w (Mixed N w0 p B m (.int .i64 0)) :=
  mine_raw h hst hm kind s hK hk hs (by rw [if_pos hroom]; exact hB) (by rw [if_pos hroom])
theorem mine_raws_not (h : Mine N w0 p A φ m w) (hst : A.stack.length < 1000000000) (hm : m < 1000000000) {K : Int} (kind : Nat) (s : ByteArray) (hK : K = kind) (hk : kind ≤ 1000) (hs : s.size ≤ 30000000) (hroom : ¬ A.live + (1 + (s.size + 7) / 8) ≤ A.limit) :
    Calls Try.prog 26 #[.pointer (some ⟨p, 0, none⟩), .int .i64 K, .string s] w (Mixed N w0 p A m (.int .i64 14)) :=
  mine_raw h hst hm kind s hK hk hs (by rw [if_neg hroom]) (by rw [if_neg hroom])
end
end Go.Proofs.Ytlbiapgikkjooaa
