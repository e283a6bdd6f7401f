/- HeapLists: the walk. -/
import Derived.Test.YtlbiapgikkjooaaHeaps
import Derived.Test.YtlbiapgikkjooaaLinked
import Derived.Test.YtlbiapgikkjooaaMineR
import Derived.Test.YtlbiapgikkjooaaEnd
import Derived.Outline
namespace Go.Proofs.Ytlbiapgikkjooaa
open Go.RowKit Go.Maps Hp

def AtList (N : Nat) (w0 : World) (p lim : Nat) (l : List Int) (ids : List Nat) (rest : List Ref) (φ : Nat → Nat) (w : World) : Prop :=
  ∃ A, Lst A lim l ids rest ∧ Mine N w0 p A φ 0 w
def ListEnd (N : Nat) (w0 : World) (p lim : Nat) (l : List Int) (ids : List Nat) (rest : List Ref) (φ : Nat → Nat) (v : Value) (e : Ending) (w : World) : Prop := e = .returned v ∧ AtList N w0 p lim l ids rest φ w
def ListNew (N : Nat) (w0 : World) (p lim : Nat) (l : List Int) (ids : List Nat) (v : Value) (e : Ending) (w : World) : Prop := e = .returned v ∧ ∃ φ, AtList N w0 p lim l ids [] φ w
def ListRaw (N : Nat) (w0 : World) (p lim : Nat) (l : List Int) (ids : List Nat) (v : Value) (e : Ending) (w : World) : Prop := e = .returned v ∧ ∃ φ r, AtList N w0 p lim l ids [r] φ w

section
variable {N : Nat} {w0 w : World} {p lim : Nat} {l : List Int} {ids : List Nat} {rest : List Ref} {φ : Nat → Nat}
theorem AtList.below (h : AtList N w0 p lim l ids rest φ w) : Below N w0 w := by obtain ⟨A, _, h⟩ := h; exact h.below
theorem AtList.drewN (h : AtList N w0 p lim l ids rest φ w) (n : Nat) : AtList N w0 p lim l ids rest φ (w.drewN n) := by obtain ⟨A, h1, h⟩ := h; exact ⟨A, h1, h.drewN n⟩

def forgotten : ByteArray := ⟨#[102, 111, 114, 103, 111, 116, 116, 101, 110]⟩
theorem list_raw (h : AtList N w0 p lim l ids [] φ w) (hr : 3 * l.length + 3 ≤ lim) : Calls Try.prog 26 #[.pointer (some ⟨p, 0, none⟩), .int .i64 2, .string forgotten] w (ListRaw N w0 p lim l ids (.int .i64 0)) := by
  obtain ⟨A, h1, h2⟩ := h
  refine (mine_raws h2 (by rw [h1.st]; simp) (by omega) 2 forgotten rfl (by omega) (by decide) (by rw [h1.live (by simp) h2.wf, h1.lim]; exact hr) rfl).mono ?_
  rintro e w' ⟨he, φ', hM⟩
  exact ⟨he, φ', _, _, h1.raw 2 _, hM⟩
theorem list_raw_not (h : AtList N w0 p lim l ids [] φ w) (hr : ¬ 3 * l.length + 3 ≤ lim) : Calls Try.prog 26 #[.pointer (some ⟨p, 0, none⟩), .int .i64 2, .string forgotten] w (ListNew N w0 p lim l ids (.int .i64 14)) := by
  obtain ⟨A, h1, h2⟩ := h
  refine (mine_raws_not h2 (by rw [h1.st]; simp) (by omega) 2 forgotten rfl (by omega) (by decide) (by rw [h1.live (by simp) h2.wf, h1.lim]; exact hr)).mono ?_
  rintro e w' ⟨he, φ', hM⟩
  exact ⟨he, φ', _, h1, hM⟩
theorem list_drop {r : Ref} (h : AtList N w0 p lim l ids [r] φ w) : Calls Try.prog 17 #[.pointer (some ⟨p, 0, none⟩), .int .i64 1] w (ListEnd N w0 p lim l ids [] φ (.tuple #[])) := by
  obtain ⟨A, h1, h2⟩ := h
  refine (mine_drop h2 1 rfl).mono ?_
  rintro e w' ⟨he, hM⟩
  exact ⟨he, _, h1.drop 1 (by simp), hM⟩
theorem list_push (h : AtList N w0 p lim l ids [] φ w) (n : Int) {x : Int} (hx : x = 2 * wr n + 1) : Calls Try.prog 15 #[.pointer (some ⟨p, 0, none⟩), .int .i64 x] w (ListEnd N w0 p lim l ids [imm (wr n)] φ (.tuple #[])) := by
  obtain ⟨A, h1, h2⟩ := h
  refine (mine_push h2 (by rw [h1.st]; simp) (r := imm (wr n)) (ok_imm (wr_ge n) (wr_le n)) hx rfl).mono ?_
  rintro e w' ⟨he, hM⟩
  exact ⟨he, _, h1.push _, hM⟩
theorem list_top1 {r : Ref} (h : AtList N w0 p lim l ids [r] φ w) : Calls Try.prog 21 #[.pointer (some ⟨p, 0, none⟩), .int .i64 1] w (ListEnd N w0 p lim l ids [r] φ (.int .i64 (word φ (headRef ids)))) := by
  obtain ⟨A, h1, h2⟩ := h
  refine (h2.quiet (mine_top h2 1 (by rw [h1.top rfl]))).mono ?_
  rintro e w' ⟨he, hM⟩
  exact ⟨he, _, h1, hM⟩
theorem list_top0 (h : AtList N w0 p lim l ids [] φ w) : Calls Try.prog 21 #[.pointer (some ⟨p, 0, none⟩), .int .i64 0] w (ListEnd N w0 p lim l ids [] φ (.int .i64 (word φ (headRef ids)))) := by
  obtain ⟨A, h1, h2⟩ := h
  refine (h2.quiet (mine_top h2 0 (by rw [h1.top0]))).mono ?_
  rintro e w' ⟨he, hM⟩
  exact ⟨he, _, h1, hM⟩
theorem list_push_head {r : Ref} (h : AtList N w0 p lim l ids [r] φ w) : Calls Try.prog 15 #[.pointer (some ⟨p, 0, none⟩), .int .i64 (word φ (headRef ids))] w (ListEnd N w0 p lim l ids [r, headRef ids] φ (.tuple #[])) := by
  obtain ⟨A, h1, h2⟩ := h
  refine (mine_push h2 (by rw [h1.st]; simp) (r := headRef ids) (h2.wf.ok_root (.inl (by rw [h1.st]; exact List.mem_cons_self ..))) rfl rfl).mono ?_
  rintro e w' ⟨he, hM⟩
  exact ⟨he, _, h1.push _, hM⟩

/-- The new list, still behind the old one (st: the words that are on the stack just now). -/
def AtMade (N : Nat) (w0 : World) (p lim : Nat) (l : List Int) (ids : List Nat) (k : Nat) (φ : Nat → Nat) (st : List Int) (w : World) : Prop :=
  ∃ A, MineR N w0 p A st φ 0 w ∧ A.Ok (obj k) ∧ Lst { A with stack := [obj k] } lim l (k :: ids) []
def MadeNew (N : Nat) (w0 : World) (p lim : Nat) (l : List Int) (ids : List Nat) (v : Value) (e : Ending) (w : World) : Prop := e = .returned v ∧ ∃ k φ, AtMade N w0 p lim l ids k φ [word φ (headRef ids), word φ (obj k)] w
def MadeEnd (N : Nat) (w0 : World) (p lim : Nat) (l : List Int) (ids : List Nat) (k : Nat) (φ : Nat → Nat) (st : List Int) (v : Value) (e : Ending) (w : World) : Prop := e = .returned v ∧ AtMade N w0 p lim l ids k φ st w
theorem list_make {n : Int} (h : AtList N w0 p lim l ids [imm n, headRef ids] φ w) (hr : 3 * l.length + 3 ≤ lim) : Calls Try.prog 16 #[.pointer (some ⟨p, 0, none⟩), .int .i64 3, .int .i64 2] w (MadeNew N w0 p lim (n :: l) ids (.int .i64 0)) := by
  obtain ⟨A, h1, h2⟩ := h
  refine (mine_makes h2 (by rw [h1.st]; simp) (by omega) 3 2 rfl rfl (by omega) (by rw [h1.st]; simp) (by rw [h1.live (fun r hr => by simp at hr; rcases hr with e | e; left; rw [e]; rfl; exact .inr e) h2.wf, h1.lim]; exact hr) rfl).mono ?_
  rintro e w' ⟨he, φ', hM⟩
  obtain ⟨B, rfl, g1, g2⟩ := h1.make
  have h3 := hM.rows
  rw [g2] at h3
  exact ⟨he, A.objs.length, φ', _, h3, hM.wf.ok_root (.inl (by rw [g2]; simp)), g1⟩
theorem made_pop {k : Nat} {a b : Int} (h : AtMade N w0 p lim l ids k φ [a, b] w) : Calls Try.prog 27 #[.pointer (some ⟨p, 0, none⟩)] w (MadeEnd N w0 p lim l ids k φ [a] (.int .i64 b)) := by
  obtain ⟨A, h1, h2, h3⟩ := h
  refine (rows_pop h1).mono ?_
  rintro e w' ⟨he, hM⟩
  exact ⟨he, A, hM, h2, h3⟩
theorem made_drop {k : Nat} {a : Int} (h : AtMade N w0 p lim l ids k φ [a] w) : Calls Try.prog 17 #[.pointer (some ⟨p, 0, none⟩), .int .i64 1] w (MadeEnd N w0 p lim l ids k φ [] (.tuple #[])) := by
  obtain ⟨A, h1, h2, h3⟩ := h
  refine (rows_drop h1 1).mono ?_
  rintro e w' ⟨he, hM⟩
  exact ⟨he, A, hM, h2, h3⟩
theorem made_push {k : Nat} (h : AtMade N w0 p lim l ids k φ [] w) : Calls Try.prog 15 #[.pointer (some ⟨p, 0, none⟩), .int .i64 (word φ (obj k))] w (ListEnd N w0 p lim l (k :: ids) [] φ (.tuple #[])) := by
  obtain ⟨A, h1, h2, h3⟩ := h
  refine (rows_push h1 (by simp) _).mono ?_
  rintro e w' ⟨he, hM⟩
  refine ⟨he, _, h3, hM.mine rfl rfl rfl rfl fun r hr => ?_⟩
  rw [List.mem_singleton] at hr
  exact hr ▸ h2
theorem list_height (h : AtList N w0 p lim l ids [] φ w) : Calls Try.prog 19 #[.pointer (some ⟨p, 0, none⟩)] w fun e w' => e = .returned (.int .i64 1) ∧ w = w' := by
  obtain ⟨A, h1, h2⟩ := h
  exact mine_height h2 (by rw [h1.st]; rfl)
theorem list_live (h : AtList N w0 p lim l ids [] φ w) {v : Int} (hv : v = 3 * (l.length : Int)) : Calls Try.prog 18 #[.pointer (some ⟨p, 0, none⟩)] w (ListNew N w0 p lim l ids (.int .i64 v)) := by
  obtain ⟨A, h1, h2⟩ := h
  refine (mine_live h2 (by rw [h1.st]; simp) (by omega) (v := v) (by rw [hv, h1.live (by simp) h2.wf]; simp)).mono ?_
  rintro e w' ⟨he, φ', hM⟩
  exact ⟨he, φ', _, h1, hM⟩
end

/-- The list of the first i numbers, the last one first. -/
def lastFirst (nums : List Int) (i : Nat) : List Int := ((nums.take i).reverse).map wr
theorem lastFirst_succ (nums : List Int) (i : Nat) (h : i < nums.length) : lastFirst nums (i + 1) = wr (nums.getD i 0) :: lastFirst nums i := by
  unfold lastFirst
  rw [List.take_succ_eq_append_getElem h, List.reverse_append, List.getD_eq_getElem?_getD, List.getElem?_eq_getElem h]; rfl
theorem lastFirst_length (nums : List Int) (i : Nat) (h : i ≤ nums.length) : (lastFirst nums i).length = i := by simp [lastFirst]; omega

def ListLoop (N : Nat) (w0 : World) (p lim : Nat) (nums : List Int) (m k : Nat) (s7 s8 : Value) (w : World) : Prop :=
  ∃ i ids φ, s7 = .int .i64 (i : Nat) ∧ s8 = .int .i64 (i : Nat) ∧ i + k = m ∧ AtList N w0 p lim (lastFirst nums i) ids [] φ w

/-- What is left to be read. -/
structure Tail (N : Nat) (w0 : World) (p lim : Nat) (nums : List Int) (ids : List Nat) (φ : Nat → Nat) (n k : Nat) (x : Int) (w : World) : Prop where
  le : k ≤ n
  len : n ≤ nums.length
  lies : ∃ A ids', Lst A lim (lastFirst nums n) ids [] ∧ Mine N w0 p A φ 0 w ∧ x = word φ (headRef ids') ∧ Linked A (lastFirst nums k) ids' ∧ A.Ok (headRef ids')
def TailLoop (N : Nat) (w0 : World) (p lim : Nat) (nums : List Int) (ids : List Nat) (φ : Nat → Nat) (n k : Nat) (s1 s2 : Value) (w : World) : Prop :=
  s2 = .int .i64 ((k : Int) - 1) ∧ ∃ x, s1 = .int .i64 x ∧ Tail N w0 p lim nums ids φ n k x w
def TailEnd (N : Nat) (w0 : World) (p lim : Nat) (nums : List Int) (ids : List Nat) (φ : Nat → Nat) (n k : Nat) (e : Ending) (w : World) : Prop :=
  ∃ x, e = .returned (.int .i64 x) ∧ Tail N w0 p lim nums ids φ n k x w

section
variable {N : Nat} {w0 w : World} {p lim : Nat} {nums : List Int} {ids : List Nat} {φ : Nat → Nat} {n k : Nat} {x : Int}
theorem AtList.tail (h : AtList N w0 p lim (lastFirst nums n) ids [] φ w) (hn : n ≤ nums.length) : Tail N w0 p lim nums ids φ n n (word φ (headRef ids)) w := by
  obtain ⟨A, h1, h2⟩ := h
  exact ⟨Nat.le_refl _, hn, A, ids, h1, h2, rfl, h1.lk, h2.wf.ok_root (.inl (by rw [h1.st]; exact List.mem_cons_self ..))⟩
theorem Tail.drewN (h : Tail N w0 p lim nums ids φ n k x w) (q : Nat) : Tail N w0 p lim nums ids φ n k x (w.drewN q) := by
  obtain ⟨h0, h1, A, ids', h2, h3, h4, h5, h6⟩ := h
  exact ⟨h0, h1, A, ids', h2, h3.drewN q, h4, h5, h6⟩
theorem Tail.below (h : Tail N w0 p lim nums ids φ n k x w) : Below N w0 w := by
  obtain ⟨h0, h1, A, ids', h2, h3, h4, h5, h6⟩ := h
  exact h3.below
theorem tail_kind (h : Tail N w0 p lim nums ids φ n (k + 1) x w) : Calls Try.prog 28 #[.pointer (some ⟨p, 0, none⟩), .int .i64 x] w fun e w' => e = .returned (.int .i64 3) ∧ ∃ n, w' = w.drewN n := by
  obtain ⟨h0, h1, A, ids', h2, h3, h4, h5, h6⟩ := h
  rw [lastFirst_succ nums k (by omega)] at h5
  obtain ⟨i, ids2, e, g1, g2, g3, g4⟩ := h5.read
  exact mine_kind h3 h6 h4 g1.symm
theorem tail_field0 (h : Tail N w0 p lim nums ids φ n (k + 1) x w) : Calls Try.prog 25 #[.pointer (some ⟨p, 0, none⟩), .int .i64 x, .int .i64 0] w fun e w' => e = .returned (.int .i64 (2 * wr (nums.getD k 0) + 1)) ∧ ∃ n, w' = w.drewN n := by
  obtain ⟨h0, h1, A, ids', h2, h3, h4, h5, h6⟩ := h
  rw [lastFirst_succ nums k (by omega)] at h5
  obtain ⟨i, ids2, e, g1, g2, g3, g4⟩ := h5.read
  exact mine_field h3 h6 h4 0 (by rw [g2]; rfl)
theorem tail_field1 (h : Tail N w0 p lim nums ids φ n (k + 1) x w) : Calls Try.prog 25 #[.pointer (some ⟨p, 0, none⟩), .int .i64 x, .int .i64 1] w (TailEnd N w0 p lim nums ids φ n k) := by
  obtain ⟨h0, h1, A, ids', h2, h3, h4, h5, h6⟩ := h
  rw [lastFirst_succ nums k (by omega)] at h5
  obtain ⟨i, ids2, e, g1, g2, g3, g4⟩ := h5.read
  refine (h3.quiet (mine_field h3 h6 h4 1 rfl)).mono ?_
  rintro e w' ⟨he, hM⟩
  rw [g3] at he
  exact ⟨_, he, by omega, h1, A, ids2, h2, hM, rfl, g4, by rw [← g3]; exact fieldI_ok h3.wf h6 1⟩
theorem Tail.done (h : Tail N w0 p lim nums ids φ n 0 x w) : x = 1 ∧ AtList N w0 p lim (lastFirst nums n) ids [] φ w := by
  obtain ⟨h0, h1, A, ids', h2, h3, h4, h5, h6⟩ := h
  refine ⟨?_, A, h2, h3⟩
  cases ids' with
  | nil => rw [h4]; rfl
  | cons _ _ => simp [lastFirst, Linked] at h5
end

theorem imm_zero (w : World) : Calls Try.prog 9 #[.int .i64 0] w fun e w' => e = .returned (.int .i64 1) ∧ w = w' := by
  have := imm_any 0 w
  rwa [imm0] at this

set_option maxRecDepth 100000 in
set_option maxHeartbeats 6400000 in
theorem lists_walk (c : Int) (nums : List Int) (v1 : Value) (w : World) (ao : Option Addr) (cap : Nat) (hv1 : v1 = .slice ao nums.length cap) (hcell : ∀ j, j < nums.length → ∃ b off, ao = some ⟨b, off, none⟩ ∧ b < w.heap.size ∧ w.cell? ⟨b, off + j, none⟩ = some (.int .i64 (nums.getD j 0)))
    (hlen : nums.length ≤ maxLen) : Calls Try.prog 6 #[.int .i64 c, v1] w fun e w' => e = .returned (.bool true) ∧ Below w.heap.size w w' := by
  subst hv1
  unfold maxLen at hlen
  obtain ⟨C, hC, hC1⟩ : ∃ C : Nat, wrap64 ((IntKind.u64.wrap c).tmod 200) = (C : Int) ∧ C < 200 := by
    have e1 : IntKind.u64.wrap c = c % 18446744073709551616 := rfl
    have h0 : 0 ≤ IntKind.u64.wrap c := by omega
    have e2 := Int.tmod_eq_emod_of_nonneg (b := 200) h0
    refine ⟨(IntKind.u64.wrap c % 200).toNat, ?_, by omega⟩
    rw [e2]; unfold wrap64; omega
  obtain ⟨lim, hlm⟩ : ∃ lim : Nat, (20 : Int) + (C : Int) = (lim : Int) := ⟨20 + C, by omega⟩
  have hC2 : (C : Int) < 200 := by omega
  have hl1 : lim < 220 := by omega
  have HC := Lib.hid hcell
  have hwr0 : wr 0 = 0 := by decide
  clear hcell
  obtain ⟨m, hm⟩ : ∃ m, m = min nums.length 80 := ⟨_, rfl⟩
  have hm1 : m ≤ 80 := by omega
  have hm2 : m ≤ nums.length := by omega
  have hm3 : m < 80 → m = nums.length := by omega
  go_enter Try.func6, Try.ntmps6
  go_wp2_with
    (first
     | ((go_at_call 14; refine (mine_new _ lim (by omega) rfl).mono ?_; rintro e w1 ⟨p, rfl, M⟩; have M1 := Lib.hid M; clear M))
     | ((go_at_call 10; refine (heaps_any _).mono ?_; rintro e w2 ⟨rfl, B⟩; have M2 := Lib.hid (M1.out.later B); clear B M1))
     | ((go_at_call 9; refine (imm_any _ _).mono ?_; rintro e w' ⟨rfl, rfl⟩))
     | ((go_at_call 15; refine (mine_push M2.out (by simp [AH.empty]) (r := imm 0) (ok_imm (by decide) (by decide)) rfl rfl).mono ?_; rintro e w3 ⟨rfl, M⟩; have M3 := Lib.hid M; clear M)))
  have HL : Hid (ListLoop w.heap.size w p lim nums m m (.int .i64 0) (.int .i64 0) w3) := ⟨0, [], _, rfl, rfl, by omega, _, lst_start lim, M3.out⟩
  clear M3 M2 hC hlm hC1 hC2 hm hwr0
  go_loopg [7, 8] m (fun k s1 s2 wr => ListLoop w.heap.size w p lim nums m k s1 s2 wr)
  case atStart => exact HL.out
  case round =>
    clear HL
    obtain ⟨i, ids, φ, rfl, rfl, hik, hB⟩ := hrel
    have HB := Lib.hid hB
    clear hB
    by_cases hlt : i < m
    · have hlt1 : (i : Int) < (nums.length : Int) := by omega
      have hlt2 : (i : Int) < 80 := by omega
      have hll := lastFirst_length nums i (by omega)
      by_cases hroom : 3 * i + 3 ≤ lim
      · obtain ⟨b, off, rfl, hb, hcl⟩ := HC.out i (by omega)
        have HR : Hid (3 * (lastFirst nums i).length + 3 ≤ lim) := by rw [hll]; exact hroom
        have HCL := Lib.hid hcl
        have cl : ∀ W, Below w.heap.size w W → W.cell? ⟨b, off + i, none⟩ = some (.int .i64 (nums.getD i 0)) := fun W hW => (hW.cell (p := ⟨b, off + i, none⟩) hb).trans hcl
        have CL := Lib.hid cl
        clear cl hcl hll
        go_wp2_with
          (first
           | ((go_at_call 26; refine (list_raw HB.out HR.out).mono ?_; rintro e w3 ⟨rfl, φ3, r3, M⟩; have M3 := Lib.hid M; clear M HB))
           | ((go_at_call 17; refine (list_drop M3.out).mono ?_; rintro e w4 ⟨rfl, M⟩; have M4 := Lib.hid M; have d4 := CL.out w4 M4.out.below; clear M M3))
           | ((go_at_call 9; refine (imm_any _ _).mono ?_; rintro e w' ⟨rfl, rfl⟩))
           | ((go_at_call 15; refine (list_push M4.out (nums.getD i 0) rfl).mono ?_; rintro e w5 ⟨rfl, M⟩; have M5 := Lib.hid M; clear M M4 d4))
           | ((go_at_call 21; refine (list_top1 M5.out).mono ?_; rintro e w6 ⟨rfl, M⟩; have M6 := Lib.hid M; clear M M5))
           | ((go_at_call 15; refine (list_push_head M6.out).mono ?_; rintro e w7 ⟨rfl, M⟩; have M7 := Lib.hid M; clear M M6))
           | ((go_at_call 16; refine (list_make M7.out HR.out).mono ?_; rintro e w8 ⟨rfl, k8, φ8, M⟩; have M8 := Lib.hid M; clear M M7))
           | ((go_at_call 27; refine (made_pop M8.out).mono ?_; rintro e w9 ⟨rfl, M⟩; have M9 := Lib.hid M; clear M M8))
           | ((go_at_call 17; refine (made_drop M9.out).mono ?_; rintro e w10 ⟨rfl, M⟩; have M10 := Lib.hid M; clear M M9))
           | ((go_at_call 15; refine (made_push M10.out).mono ?_; rintro e w11 ⟨rfl, M⟩; have M11 := Lib.hid M; clear M M10)))
        go_roundg (gk - 1)
        case measure => omega
        case rel => exact ⟨i + 1, _, φ8, by go_num, by go_num, by omega, by rw [lastFirst_succ nums i (by omega)]; exact M11.out⟩
      · have HR : Hid (¬ 3 * (lastFirst nums i).length + 3 ≤ lim) := by rw [hll]; exact hroom
        clear hll
        go_wp2_with
          (first
           | ((go_at_call 26; refine (list_raw_not HB.out HR.out).mono ?_; rintro e w3 ⟨rfl, φT, M⟩; have LL := Lib.hid M; clear M HB))
           | ((go_at_call 21; refine (list_top0 LL.out).mono ?_; rintro e w9 ⟨rfl, M⟩; have M9 := Lib.hid M; clear M LL)))
        have HT : Hid (TailLoop w.heap.size w p lim nums ids φT i i (.int .i64 (word φT (headRef ids))) (.int .i64 ((i : Int) - 1)) w9) := ⟨rfl, _, rfl, M9.out.tail (by omega)⟩
        clear M9
        go_loopg [11, 12] i (fun k s1 s2 wr => TailLoop w.heap.size w p lim nums ids φT i k s1 s2 wr)
        case atStart => exact HT.out
        case round =>
          clear HT
          obtain ⟨rfl, x, rfl, hB⟩ := hrel
          have HB := Lib.hid hB
          clear hB
          have hgk := HB.out.le
          by_cases hg : 0 < gk
          · obtain ⟨j, hj⟩ : ∃ j, gk = j + 1 := ⟨gk - 1, by omega⟩
            subst hj
            have hjn : j < nums.length := by omega
            have ej : ((j + 1 : Nat) : Int) - 1 = (j : Int) := by omega
            rw [ej]
            obtain ⟨b, off, rfl, hb, hcl⟩ := HC.out j hjn
            have cj := (HB.out.below.cell (p := ⟨b, off + j, none⟩) hb).trans hcl
            have hj3 : (j : Int) < (nums.length : Int) := by omega
            have hj4 : (j : Int) < 80 := by omega
            clear hcl ej
            go_wp2
            go_quiet ((first | (go_at_call 28; exact qd (tail_kind (HB.out.drewN _))) | (go_at_call 25; exact qd (tail_field0 (HB.out.drewN _))) | (go_at_call 9; exact qs (imm_any _ _))))
            go_wp2_with
              ((go_at_call 25; refine (tail_field1 (HB.out.drewN _)).mono ?_; rintro e w10 ⟨x2, rfl, M⟩; have M10 := Lib.hid M; clear M HB))
            go_roundg j
            case measure => omega
            case rel => exact ⟨by go_num, x2, rfl, M10.out⟩
          · obtain rfl : gk = 0 := by omega
            obtain ⟨rfl, hL⟩ := HB.out.done
            have HL := Lib.hid hL
            have hll := Lib.hid (lastFirst_length nums i (by omega))
            clear hL HB
            go_wp2_with
              (first
               | ((go_at_call 9; refine (imm_zero _).mono ?_; rintro e w' ⟨rfl, rfl⟩))
               | ((go_at_call 19; refine (list_height HL.out).mono ?_; rintro e w' ⟨rfl, rfl⟩))
               | ((go_at_call 18; refine (list_live (v := 3 * (i : Int)) HL.out (by rw [hll.out])).mono ?_; rintro e w10 ⟨rfl, φ10, M⟩; have M10 := Lib.hid M; clear M)))
            go_ret
            exact ⟨rfl, M10.out.below⟩
    · obtain rfl : i = m := by omega
      have hge : ¬ ((i : Int) < (nums.length : Int) ∧ (i : Int) < 80) := by omega
      obtain ⟨φT, hφT⟩ : ∃ φT : Nat → Nat, φT = φ := ⟨_, rfl⟩
      subst hφT
      by_cases h80 : (i : Int) < (nums.length : Int)
      · have h81 : ¬ (i : Int) < 80 := by omega
        go_wp2_with
          ((go_at_call 21; refine (list_top0 HB.out).mono ?_; rintro e w9 ⟨rfl, M⟩; have M9 := Lib.hid M; clear M HB))
        have HT : Hid (TailLoop w.heap.size w p lim nums ids φT i i (.int .i64 (word φT (headRef ids))) (.int .i64 ((i : Int) - 1)) w9) := ⟨rfl, _, rfl, M9.out.tail (by omega)⟩
        clear M9
        go_loopg [11, 12] i (fun k s1 s2 wr => TailLoop w.heap.size w p lim nums ids φT i k s1 s2 wr)
        case atStart => exact HT.out
        case round =>
          clear HT
          obtain ⟨rfl, x, rfl, hB⟩ := hrel
          have HB := Lib.hid hB
          clear hB
          have hgk := HB.out.le
          by_cases hg : 0 < gk
          · obtain ⟨j, hj⟩ : ∃ j, gk = j + 1 := ⟨gk - 1, by omega⟩
            subst hj
            have hjn : j < nums.length := by omega
            have ej : ((j + 1 : Nat) : Int) - 1 = (j : Int) := by omega
            rw [ej]
            obtain ⟨b, off, rfl, hb, hcl⟩ := HC.out j hjn
            have cj := (HB.out.below.cell (p := ⟨b, off + j, none⟩) hb).trans hcl
            have hj3 : (j : Int) < (nums.length : Int) := by omega
            have hj4 : (j : Int) < 80 := by omega
            clear hcl ej
            go_wp2
            go_quiet ((first | (go_at_call 28; exact qd (tail_kind (HB.out.drewN _))) | (go_at_call 25; exact qd (tail_field0 (HB.out.drewN _))) | (go_at_call 9; exact qs (imm_any _ _))))
            go_wp2_with
              ((go_at_call 25; refine (tail_field1 (HB.out.drewN _)).mono ?_; rintro e w10 ⟨x2, rfl, M⟩; have M10 := Lib.hid M; clear M HB))
            go_roundg j
            case measure => omega
            case rel => exact ⟨by go_num, x2, rfl, M10.out⟩
          · obtain rfl : gk = 0 := by omega
            obtain ⟨rfl, hL⟩ := HB.out.done
            have HL := Lib.hid hL
            have hll := Lib.hid (lastFirst_length nums i (by omega))
            clear hL HB
            go_wp2_with
              (first
               | ((go_at_call 9; refine (imm_zero _).mono ?_; rintro e w' ⟨rfl, rfl⟩))
               | ((go_at_call 19; refine (list_height HL.out).mono ?_; rintro e w' ⟨rfl, rfl⟩))
               | ((go_at_call 18; refine (list_live (v := 3 * (i : Int)) HL.out (by rw [hll.out])).mono ?_; rintro e w10 ⟨rfl, φ10, M⟩; have M10 := Lib.hid M; clear M)))
            go_ret
            exact ⟨rfl, M10.out.below⟩
      · go_wp2_with
          ((go_at_call 21; refine (list_top0 HB.out).mono ?_; rintro e w9 ⟨rfl, M⟩; have M9 := Lib.hid M; clear M HB))
        have HT : Hid (TailLoop w.heap.size w p lim nums ids φT i i (.int .i64 (word φT (headRef ids))) (.int .i64 ((i : Int) - 1)) w9) := ⟨rfl, _, rfl, M9.out.tail (by omega)⟩
        clear M9
        go_loopg [11, 12] i (fun k s1 s2 wr => TailLoop w.heap.size w p lim nums ids φT i k s1 s2 wr)
        case atStart => exact HT.out
        case round =>
          clear HT
          obtain ⟨rfl, x, rfl, hB⟩ := hrel
          have HB := Lib.hid hB
          clear hB
          have hgk := HB.out.le
          by_cases hg : 0 < gk
          · obtain ⟨j, hj⟩ : ∃ j, gk = j + 1 := ⟨gk - 1, by omega⟩
            subst hj
            have hjn : j < nums.length := by omega
            have ej : ((j + 1 : Nat) : Int) - 1 = (j : Int) := by omega
            rw [ej]
            obtain ⟨b, off, rfl, hb, hcl⟩ := HC.out j hjn
            have cj := (HB.out.below.cell (p := ⟨b, off + j, none⟩) hb).trans hcl
            have hj3 : (j : Int) < (nums.length : Int) := by omega
            have hj4 : (j : Int) < 80 := by omega
            clear hcl ej
            go_wp2
            go_quiet ((first | (go_at_call 28; exact qd (tail_kind (HB.out.drewN _))) | (go_at_call 25; exact qd (tail_field0 (HB.out.drewN _))) | (go_at_call 9; exact qs (imm_any _ _))))
            go_wp2_with
              ((go_at_call 25; refine (tail_field1 (HB.out.drewN _)).mono ?_; rintro e w10 ⟨x2, rfl, M⟩; have M10 := Lib.hid M; clear M HB))
            go_roundg j
            case measure => omega
            case rel => exact ⟨by go_num, x2, rfl, M10.out⟩
          · obtain rfl : gk = 0 := by omega
            obtain ⟨rfl, hL⟩ := HB.out.done
            have HL := Lib.hid hL
            have hll := Lib.hid (lastFirst_length nums i (by omega))
            clear hL HB
            go_wp2_with
              (first
               | ((go_at_call 9; refine (imm_zero _).mono ?_; rintro e w' ⟨rfl, rfl⟩))
               | ((go_at_call 19; refine (list_height HL.out).mono ?_; rintro e w' ⟨rfl, rfl⟩))
               | ((go_at_call 18; refine (list_live (v := 3 * (i : Int)) HL.out (by rw [hll.out])).mono ?_; rintro e w10 ⟨rfl, φ10, M⟩; have M10 := Lib.hid M; clear M)))
            go_ret
            exact ⟨rfl, M10.out.below⟩

end Go.Proofs.Ytlbiapgikkjooaa
