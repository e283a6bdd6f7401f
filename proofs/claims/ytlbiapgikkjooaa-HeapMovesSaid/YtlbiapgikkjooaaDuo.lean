/- The program's heap and the reference's in one memory: the program's calls. -/
import Derived.Test.YtlbiapgikkjooaaRh8
namespace Go.Proofs.Ytlbiapgikkjooaa
open Go.RowKit Go.Maps Hp
set_option linter.unusedSimpArgs false
set_option linter.unusedSectionVars false
set_option linter.unusedVariables false

/-- Below n all is as it was; an object that stands aside. -/
structure Bd where
  n : Nat
  x : Option (Nat × Obj)
/-- The program's heap in the blocks F, its stack any row st. -/
def HeapR (w : World) (p : Nat) (F : List Nat) (A : AH) (st : List Int) (φ : Nat → Nat) (m : Nat) : Prop :=
  ∃ bp np vc vs cells pins, HeapIs w p bp np vc vs A.limit cells st pins ∧ Rep A φ cells (A.stack.map (word φ)) pins ∧ foot p bp vc vs = F ∧ np ≤ m ∧ A.limit ≤ 4194304
def RefAt (w : World) (q : Nat) (F : List Nat) (lim : Nat) (L : List (Ob × Value)) (S : List Ref) (P : List (Int × Ref)) : Prop :=
  ∃ vl vs vp, RefIs w q lim vl vs vp L S P ∧ rfoot q vl vs vp L = F
structure Small (c : Nat) (B : AH) (L : List (Ob × Value)) (P : List (Int × Ref)) : Prop where
  objs : B.objs = L.map (·.1)
  pins : ∀ k, B.pins k = pinOf P k
  nd : (P.map (·.1)).Nodup
  bL : L.length ≤ c
  bS : B.stack.length ≤ c
  bP : P.length ≤ c
  bO : ∀ o ∈ L, o.1.fields.length ≤ c ∧ o.1.bytes.length ≤ 200
structure DuoIs (N : Bd) (w0 : World) (p q : Nat) (A : AH) (st : List Int) (φ : Nat → Nat) (m c : Nat) (B : AH) (w : World) (F1 F2 : List Nat) (L : List (Ob × Value)) (P : List (Int × Ref)) : Prop where
  h : HeapR w p F1 A st φ m
  r : RefAt w q F2 B.limit L B.stack P
  s : Small c B L P
  d1 : ∀ k ∈ F1, N.n ≤ k ∧ k ∉ F2
  d2 : ∀ k ∈ F2, N.n ≤ k
  b : Below N.n w0 w
  n : N.n ≤ w.heap.size
  x : ∀ b o, N.x = some (b, o) → w.heap[b]? = some o ∧ b ∉ F1 ∧ b ∉ F2
def Duo (N : Bd) (w0 : World) (p q : Nat) (A : AH) (st : List Int) (φ : Nat → Nat) (m c : Nat) (B : AH) (w : World) : Prop :=
  ∃ F1 F2 L P, DuoIs N w0 p q A st φ m c B w F1 F2 L P
def DuoTo (N : Bd) (w0 : World) (p q : Nat) (A : AH) (st : List Int) (φ : Nat → Nat) (m c : Nat) (B : AH) (v : Value) (e : Ending) (w : World) : Prop :=
  e = .returned v ∧ Duo N w0 p q A st φ m c B w
/-- Both are one heap of the document. -/
def One (N : Bd) (w0 : World) (p q : Nat) (m c : Nat) (A : AH) (w : World) : Prop := ∃ φ, Duo N w0 p q A (A.stack.map (word φ)) φ m c A w
/-- The program's heap has gone ahead. -/
def Ahead (N : Bd) (w0 : World) (p q : Nat) (m c : Nat) (A B : AH) (v : Value) (e : Ending) (w : World) : Prop := e = .returned v ∧ ∃ φ, Duo N w0 p q A (A.stack.map (word φ)) φ m c B w

section
variable {N : Bd} {m c : Nat} {w0 w w' : World} {p q : Nat} {A B : AH} {st : List Int} {φ : Nat → Nat} {F1 F2 : List Nat} {L : List (Ob × Value)} {P : List (Int × Ref)}
theorem HeapR.chg {G : List Nat} (h : HeapR w p F1 A st φ m) (hc : Chg G w w') (hd : ∀ k ∈ F1, k ∉ G) : HeapR w' p F1 A st φ m := by
  obtain ⟨bp, np, vc, vs, cells, pins, h1, h2, rfl, h4, h5⟩ := h
  exact ⟨bp, np, vc, vs, cells, pins, h1.chg hc hd, h2, rfl, h4, h5⟩
theorem HeapR.lt (h : HeapR w p F1 A st φ m) {k : Nat} (hk : k ∈ F1) : k < w.heap.size := by
  obtain ⟨bp, np, vc, vs, cells, pins, h1, h2, rfl, h4, h5⟩ := h
  exact h1.foot_lt hk
theorem HeapR.wf (h : HeapR w p F1 A st φ m) : A.Wf := by
  obtain ⟨bp, np, vc, vs, cells, pins, h1, h2, rfl, h4, h5⟩ := h
  exact h2.wf
theorem HeapR.rows (h : HeapR w p F1 A st φ m) : MineR 0 w p A st φ m w := by
  obtain ⟨bp, np, vc, vs, cells, pins, h1, h2, rfl, h4, h5⟩ := h
  exact ⟨bp, np, vc, vs, cells, pins, h1, h2, h4, h5, fun _ _ => Nat.zero_le _, Below.refl _ _, Nat.zero_le _⟩
theorem HeapR.mine (h : HeapR w p F1 A (A.stack.map (word φ)) φ m) : Mine 0 w p A φ m w := by
  obtain ⟨bp, np, vc, vs, cells, pins, h1, h2, rfl, h4, h5⟩ := h
  exact ⟨_, ⟨bp, np, vc, vs, cells, _, pins, h1, h2, rfl, h4, h5⟩, fun _ _ => Nat.zero_le _, Below.refl _ _, Nat.zero_le _⟩
theorem HeapAt.rowsR (h : HeapAt w p F1 A φ m) : HeapR w p F1 A (A.stack.map (word φ)) φ m := by
  obtain ⟨bp, np, vc, vs, cells, stack, pins, h1, h2, h3, h4, h5⟩ := h
  have e := h2.stack
  subst e
  exact ⟨bp, np, vc, vs, cells, pins, h1, h2, h3, h4, h5⟩
theorem HeapR.at (h : HeapR w p F1 A (A.stack.map (word φ)) φ m) : HeapAt w p F1 A φ m := by
  obtain ⟨bp, np, vc, vs, cells, pins, h1, h2, h3, h4, h5⟩ := h
  exact ⟨bp, np, vc, vs, cells, _, pins, h1, h2, h3, h4, h5⟩
theorem RefAt.chg {G : List Nat} {lim : Nat} {S : List Ref} (h : RefAt w q F2 lim L S P) (hc : Chg G w w') (hd : ∀ k ∈ F2, k ∉ G) : RefAt w' q F2 lim L S P := by
  obtain ⟨vl, vs, vp, h1, rfl⟩ := h
  exact ⟨vl, vs, vp, h1.chg hc hd, rfl⟩
theorem RefAt.lt {lim : Nat} {S : List Ref} (h : RefAt w q F2 lim L S P) {k : Nat} (hk : k ∈ F2) : k < w.heap.size := by
  obtain ⟨vl, vs, vp, h1, rfl⟩ := h
  exact h1.lt k hk
theorem Small.tied (h : Small c B L P) (hc : c ≤ 1000000) (hwf : B.Wf) : Tied B L P :=
  ⟨h.objs, h.pins, h.nd, hwf, by have := h.bL; omega, by have := h.bS; omega, by have := h.bP; omega, fun o ho => ⟨by have := (h.bO o ho).1; omega, by have := (h.bO o ho).2; omega⟩⟩
theorem Small.mono {c' : Nat} (h : Small c B L P) (hc : c ≤ c') : Small c' B L P :=
  ⟨h.objs, h.pins, h.nd, by have := h.bL; omega, by have := h.bS; omega, by have := h.bP; omega, fun o ho => ⟨by have := (h.bO o ho).1; omega, (h.bO o ho).2⟩⟩
theorem DuoIs.prog {A' : AH} {st' : List Int} {φ' : Nat → Nat} {m' : Nat} {F' : List Nat} (h : DuoIs N w0 p q A st φ m c B w F1 F2 L P) (h' : HeapR w' p F' A' st' φ' m') (hc : Chg F1 w w') (hw : Within F1 F' w.heap.size) : Duo N w0 p q A' st' φ' m' c B w' :=
  ⟨F', F2, L, P, h', h.r.chg hc (fun k hk hm => (h.d1 k hm).2 hk), h.s, fun k hk => by
    rcases hw k hk with e | e
    · exact h.d1 k e
    · exact ⟨by have := h.n; omega, fun hm => by have := h.r.lt hm; omega⟩, h.d2, h.b.trans (hc.below h.n (fun k hk => (h.d1 k hk).1)), Nat.le_trans h.n hc.size, fun b o ho => by
    obtain ⟨g1, g2, g3⟩ := h.x b o ho
    refine ⟨(hc.block b (lt_of_block g1) g2).trans g1, fun hm => ?_, g3⟩
    rcases hw b hm with e | e
    · exact g2 e
    · have := lt_of_block g1; omega⟩
theorem Duo.later (h : Duo N w0 p q A st φ m c B w) (hb : Below w.heap.size w w') : Duo N w0 p q A st φ m c B w' := by
  obtain ⟨F1, F2, L, P, h⟩ := h
  have hc : Chg [] w w' := (Chg.refl [] w).belowTrans hb
  exact ⟨F1, F2, L, P, h.h.chg hc (by simp), h.r.chg hc (by simp), h.s, h.d1, h.d2, h.b.trans (hc.below h.n (by simp)), Nat.le_trans h.n hc.size, fun b o ho => by
    obtain ⟨g1, g2, g3⟩ := h.x b o ho
    exact ⟨(hc.block b (lt_of_block g1) (by simp)).trans g1, g2, g3⟩⟩
theorem Duo.mono {m' c' : Nat} (h : Duo N w0 p q A st φ m c B w) (hm : m ≤ m') (hc : c ≤ c') : Duo N w0 p q A st φ m' c' B w := by
  obtain ⟨F1, F2, L, P, h⟩ := h
  obtain ⟨bp, np, vc, vs, cells, pins, h1, h2, h3, h4, h5⟩ := h.h
  exact ⟨F1, F2, L, P, ⟨bp, np, vc, vs, cells, pins, h1, h2, h3, by omega, h5⟩, h.r, h.s.mono hc, h.d1, h.d2, h.b, h.n, h.x⟩
theorem Duo.box {b : Nat} {o : Obj} (h : Duo N w0 p q A st φ m c B w) (hx : N.x = some (b, o)) : w.heap[b]? = some o := by obtain ⟨F1, F2, L, P, h⟩ := h; exact (h.x b o hx).1
/-- A new object stands aside. -/
theorem Duo.aside (h : Duo N w0 p q A st φ m c B w) (o : Obj) : Duo ⟨N.n, some (w.heap.size, o)⟩ w0 p q A st φ m c B (w.alloc o) := by
  obtain ⟨F1, F2, L, P, h⟩ := h
  have hc : Chg [] w (w.alloc o) := (Chg.refl [] w).alloc o
  refine ⟨F1, F2, L, P, h.h.chg hc (by simp), h.r.chg hc (by simp), h.s, h.d1, h.d2, h.b.trans (hc.below h.n (by simp)), Nat.le_trans h.n hc.size, fun b o' ho => ?_⟩
  cases ho
  exact ⟨heap_alloc_new w o, fun hm => by have := h.h.lt hm; omega, fun hm => by have := h.r.lt hm; omega⟩
theorem Duo.alone (h : Duo N w0 p q A st φ m c B w) : Duo ⟨N.n, none⟩ w0 p q A st φ m c B w := by
  obtain ⟨F1, F2, L, P, h⟩ := h
  exact ⟨F1, F2, L, P, h.h, h.r, h.s, h.d1, h.d2, h.b, h.n, fun b o ho => by cases ho⟩
theorem Duo.wf (h : Duo N w0 p q A st φ m c B w) : A.Wf := by obtain ⟨F1, F2, L, P, h⟩ := h; exact h.h.wf
/-- Another stack that is the document's again. -/
theorem Duo.stack {A' : AH} (h : Duo N w0 p q A st φ m c B w) (hobjs : A'.objs = A.objs) (hlim : A'.limit = A.limit) (hpins : A'.pins = A.pins) (hst : st = A'.stack.map (word φ)) (hr : ∀ r ∈ A'.stack, A.Ok r) : Duo N w0 p q A' (A'.stack.map (word φ)) φ m c B w := by
  obtain ⟨F1, F2, L, P, h⟩ := h
  obtain ⟨bp, np, vc, vs, cells, pins, h1, h2, h3, h4, h5⟩ := h.h
  have h9 := h2.weaken hobjs hlim (fun r hr' => by
    rcases hr' with hr' | ⟨k, hk⟩
    · exact hr r hr'
    · exact h2.wf.ok_root (.inr ⟨k, by rw [← hpins]; exact hk⟩))
  have e : (fun k => (A'.pins k).map (word φ)) = pins := by funext k; rw [hpins]; exact (h2.pins k).symm
  refine ⟨F1, F2, L, P, ⟨bp, np, vc, vs, cells, pins, ?_, ?_, h3, h4, by rw [hlim]; exact h5⟩, h.r, h.s, h.d1, h.d2, h.b, h.n, h.x⟩
  · rw [← hst, hlim]; exact h1
  · rw [e] at h9; exact h9
theorem duo_push (h : Duo N w0 p q A st φ m c B w) (hl : st.length < 1000000000) (x : Int) : Calls Try.prog 15 #[.pointer (some ⟨p, 0, none⟩), .int .i64 x] w (DuoTo N w0 p q A (st ++ [x]) φ m c B (.tuple #[])) := by
  obtain ⟨F1, F2, L, P, h⟩ := h
  obtain ⟨bp, np, vc, vs, cells, pins, h1, h2, rfl, h4, h5⟩ := h.h
  refine (push_any w p bp np vc vs A.limit cells st pins h1 x hl).mono ?_
  rintro e w' ⟨he, vc', vs', g1, g2, g3⟩
  exact ⟨he, h.prog ⟨bp, np, vc', vs', cells, pins, g1, h2, rfl, h4, h5⟩ g2 g3⟩
theorem duo_pop (h : Duo N w0 p q A st φ m c B w) : Calls Try.prog 27 #[.pointer (some ⟨p, 0, none⟩)] w (DuoTo N w0 p q A (st.take (st.length - 1)) φ m c B (.int .i64 (topOf st 0))) := by
  obtain ⟨F1, F2, L, P, h⟩ := h
  obtain ⟨bp, np, vc, vs, cells, pins, h1, h2, rfl, h4, h5⟩ := h.h
  refine (pop_any h1).mono ?_
  rintro e w' ⟨he, vc', vs', g1, g2, g3⟩
  exact ⟨he, h.prog ⟨bp, np, vc', vs', cells, pins, g1, h2, rfl, h4, h5⟩ g2 g3⟩
theorem duo_drop (h : Duo N w0 p q A st φ m c B w) (n : Int) : Calls Try.prog 17 #[.pointer (some ⟨p, 0, none⟩), .int .i64 n] w (DuoTo N w0 p q A (st.take (st.length - dropOf n)) φ m c B (.tuple #[])) := by
  obtain ⟨F1, F2, L, P, h⟩ := h
  obtain ⟨bp, np, vc, vs, cells, pins, h1, h2, rfl, h4, h5⟩ := h.h
  refine (drop_any w p bp np vc vs A.limit cells st pins h1 n).mono ?_
  rintro e w' ⟨he, vc', vs', g1, g2, g3⟩
  exact ⟨he, h.prog ⟨bp, np, vc', vs', cells, pins, g1, h2, rfl, h4, h5⟩ g2 g3⟩
theorem duo_pin (h : Duo N w0 p q A (A.stack.map (word φ)) φ m c B w) {k : Int} (hk : (Lit.int .i64 k).wf = true) (hm : m < 1000000000) {r : Ref} (hr : A.Ok r) :
    Calls Try.prog 20 #[.pointer (some ⟨p, 0, none⟩), .int .i64 k, .int .i64 (word φ r)] w (DuoTo N w0 p q (A.pin k r) ((A.pin k r).stack.map (word φ)) φ (m + 1) c B (.tuple #[])) := by
  obtain ⟨F1, F2, L, P, h⟩ := h
  obtain ⟨bp, np, vc, vs, cells, pins, h1, h2, rfl, h4, h5⟩ := h.h
  have hwf : (Lit.int .i64 (word φ r)).wf = true := word_wf hr fun ho => by
    obtain ⟨o, _, _, _, _, _, _, _, q1, q2, _⟩ := h2.parts hr ho h5
    have := h2.room
    omega
  refine (pin_any w p bp np vc vs A.limit cells _ pins h1 k (word φ r) hk hwf (by omega)).mono ?_
  rintro e w' ⟨he, vc', vs', g1, g2, g3⟩
  exact ⟨he, h.prog ⟨bp, np + 1, vc', vs', cells, _, g1, h2.pin k hr, rfl, by omega, h5⟩ g2 g3⟩
theorem duo_unpin (h : Duo N w0 p q A (A.stack.map (word φ)) φ m c B w) {k : Int} (hk : (Lit.int .i64 k).wf = true) :
    Calls Try.prog 24 #[.pointer (some ⟨p, 0, none⟩), .int .i64 k] w (DuoTo N w0 p q (A.unpin k) ((A.unpin k).stack.map (word φ)) φ m c B (.tuple #[])) := by
  obtain ⟨F1, F2, L, P, h⟩ := h
  obtain ⟨bp, np, vc, vs, cells, pins, h1, h2, rfl, h4, h5⟩ := h.h
  refine (unpin_any w p bp np vc vs A.limit cells _ pins h1 k hk).mono ?_
  rintro e w' ⟨he, vc', vs', g1, g2, g3⟩
  exact ⟨he, h.prog ⟨bp, np, vc', vs', cells, _, g1, h2.unpin k, rfl, by omega, h5⟩ g2 g3⟩
theorem duo_live (h : Duo N w0 p q A (A.stack.map (word φ)) φ m c B w) (hst : A.stack.length < 1000000000) (hm : m < 1000000000) :
    Calls Try.prog 18 #[.pointer (some ⟨p, 0, none⟩)] w (Ahead N w0 p q m c A B (.int .i64 (A.live : Int))) := by
  obtain ⟨F1, F2, L, P, h⟩ := h
  refine (at_live h.h.at hst hm).mono ?_
  rintro e w' ⟨he, φ', F', g1, g2, g3⟩
  exact ⟨he, φ', h.prog g1.rowsR g2 g3⟩
theorem duo_make (h : Duo N w0 p q A (A.stack.map (word φ)) φ m c B w) (hst : A.stack.length < 1000000000) (hm : m < 1000000000) (kind n : Nat) (hk : kind ≤ 1000) (hn : n ≤ A.stack.length) :
    Calls Try.prog 16 #[.pointer (some ⟨p, 0, none⟩), .int .i64 kind, .int .i64 n] w (Ahead N w0 p q m c (if A.live + (1 + n) ≤ A.limit then A.make kind n else A) B (.int .i64 (if A.live + (1 + n) ≤ A.limit then 0 else 14))) := by
  obtain ⟨F1, F2, L, P, h⟩ := h
  refine (at_make h.h.at hst hm kind n hk hn).mono ?_
  rintro e w' ⟨he, φ', F', g1, g2, g3⟩
  exact ⟨he, φ', h.prog g1.rowsR g2 g3⟩
theorem duo_make_bad (h : Duo N w0 p q A (A.stack.map (word φ)) φ m c B w) (hst : A.stack.length < 1000000000) (kind n : Int) (hbad : kind < 0 ∨ 1000 < kind ∨ n < 0 ∨ (A.stack.length : Int) < n) :
    Calls Try.prog 16 #[.pointer (some ⟨p, 0, none⟩), .int .i64 kind, .int .i64 n] w fun e w' => e = .returned (.int .i64 1) ∧ w = w' := by
  obtain ⟨F1, F2, L, P, h⟩ := h
  obtain ⟨bp, np, vc, vs, cells, pins, h1, h2, rfl, h4, h5⟩ := h.h
  exact make_arg h1 (by rw [List.length_map]; exact hst) kind n (by rw [List.length_map]; exact hbad)
theorem duo_raw (h : Duo N w0 p q A (A.stack.map (word φ)) φ m c B w) (hst : A.stack.length < 1000000000) (hm : m < 1000000000) (kind : Nat) (s : ByteArray) (hk : kind ≤ 1000) (hs : s.size ≤ 30000000) :
    Calls Try.prog 26 #[.pointer (some ⟨p, 0, none⟩), .int .i64 kind, .string s] w (Ahead N w0 p q m c (if A.live + (rawOb kind s.data.toList).size ≤ A.limit then A.raw kind s.data.toList else A) B (.int .i64 (if A.live + (rawOb kind s.data.toList).size ≤ A.limit then 0 else 14))) := by
  obtain ⟨F1, F2, L, P, h⟩ := h
  obtain ⟨bp, np, vc, vs, cells, pins, h1, h2, rfl, h4, h5⟩ := h.h
  have hst' : (A.stack.map (word φ)).length < 1000000000 := by rw [List.length_map]; exact hst
  have hz : (rawOb kind s.data.toList).size = 1 + (s.size + 7) / 8 := by rw [rawOb_size]; simp
  have key : Calls Try.prog 26 #[.pointer (some ⟨p, 0, none⟩), .int .i64 kind, .string s] w (PutEnd A w p bp np vc vs (rawOb kind s.data.toList) 0) := by
    by_cases hroom : A.live + (1 + (s.size + 7) / 8) ≤ A.limit
    · exact raw_room h1 h2 h5 hst' (by omega) kind s hk hs hroom
    · exact raw_full h1 h2 h5 hst' (by omega) kind s hk hs hroom
  refine key.mono fun e w' he => ?_
  obtain ⟨he, φ', F', g1, g2, g3⟩ := he.at h4 h5
  exact ⟨he, φ', h.prog g1.rowsR g2 g3⟩
theorem duo_top (h : Duo N w0 p q A (A.stack.map (word φ)) φ m c B w) (i : Int) : Calls Try.prog 21 #[.pointer (some ⟨p, 0, none⟩), .int .i64 i] w fun e w' => e = .returned (.int .i64 (word φ (A.topI i))) ∧ ∃ n, w' = w.drewN n := by
  obtain ⟨F1, F2, L, P, h⟩ := h
  exact mine_top h.h.mine i rfl
theorem duo_height (h : Duo N w0 p q A (A.stack.map (word φ)) φ m c B w) : Calls Try.prog 19 #[.pointer (some ⟨p, 0, none⟩)] w fun e w' => e = .returned (.int .i64 A.stack.length) ∧ w = w' := by
  obtain ⟨F1, F2, L, P, h⟩ := h
  exact mine_height h.h.mine rfl
theorem duo_pinned (h : Duo N w0 p q A (A.stack.map (word φ)) φ m c B w) {k : Int} (hk : (Lit.int .i64 k).wf = true) :
    Calls Try.prog 22 #[.pointer (some ⟨p, 0, none⟩), .int .i64 k] w fun e w' => e = .returned (.tuple #[.int .i64 (((A.pins k).map (word φ)).getD 0), .bool (A.pins k).isSome]) ∧ w = w' := by
  obtain ⟨F1, F2, L, P, h⟩ := h
  exact mine_pinned h.h.mine hk rfl rfl
theorem duo_kind (h : Duo N w0 p q A st φ m c B w) {r : Ref} (hr : A.Ok r) : Calls Try.prog 28 #[.pointer (some ⟨p, 0, none⟩), .int .i64 (word φ r)] w fun e w' => e = .returned (.int .i64 (A.kindOf r)) ∧ ∃ n, w' = w.drewN n := by
  obtain ⟨F1, F2, L, P, h⟩ := h
  exact rows_kind h.h.rows hr rfl rfl
theorem duo_size (h : Duo N w0 p q A st φ m c B w) {r : Ref} (hr : A.Ok r) : Calls Try.prog 29 #[.pointer (some ⟨p, 0, none⟩), .int .i64 (word φ r)] w fun e w' => e = .returned (.int .i64 (A.sizeOf r : Nat)) ∧ ∃ n, w' = w.drewN n := by
  obtain ⟨F1, F2, L, P, h⟩ := h
  exact rows_size h.h.rows hr rfl rfl
theorem duo_field (h : Duo N w0 p q A st φ m c B w) {r : Ref} (hr : A.Ok r) (i : Int) : Calls Try.prog 25 #[.pointer (some ⟨p, 0, none⟩), .int .i64 (word φ r), .int .i64 i] w fun e w' => e = .returned (.int .i64 (word φ (A.fieldI r i))) ∧ ∃ n, w' = w.drewN n := by
  obtain ⟨F1, F2, L, P, h⟩ := h
  exact rows_field h.h.rows hr rfl i rfl
theorem duo_bytes (h : Duo N w0 p q A st φ m c B w) {r : Ref} (hr : A.Ok r) : Calls Try.prog 30 #[.pointer (some ⟨p, 0, none⟩), .int .i64 (word φ r)] w fun e w' => e = .returned (.string ⟨(A.bytesOf r).toArray⟩) ∧ Below w.heap.size w w' := by
  obtain ⟨F1, F2, L, P, h⟩ := h
  exact rows_bytes h.h.rows hr rfl rfl
theorem duo_set (h : Duo N w0 p q A (A.stack.map (word φ)) φ m c B w) {r y : Ref} (hr : A.Ok r) (i : Int) (hy : A.Ok y) :
    Calls Try.prog 23 #[.pointer (some ⟨p, 0, none⟩), .int .i64 (word φ r), .int .i64 i, .int .i64 (word φ y)] w (DuoTo N w0 p q (A.setI r i y) ((A.setI r i y).stack.map (word φ)) φ m c B (.tuple #[])) := by
  have hM := h
  have hq : ∀ n, Duo N w0 p q A (A.stack.map (word φ)) φ m c B (w.drewN n) := fun n => hM.later (below_drewN (Below.refl _ _) n)
  obtain ⟨F1, F2, L, P, h⟩ := h
  obtain ⟨bp, np, vc, vs, cells, pins, h1, h2, rfl, h4, h5⟩ := h.h
  cases ho : r.obj
  · have e : A.setI r i y = A := by unfold AH.setI; rw [if_neg (by simp [ho])]
    rw [e]
    refine (set_imm w p _ i _ (word_imm φ ho)).mono ?_
    rintro e w' ⟨he, n, rfl⟩
    exact ⟨he, hq n⟩
  · obtain ⟨o, q1, q2, q3, q4, q5, q6, q7, q8, q9, q10, q11⟩ := h2.parts hr ho h5
    have hsz : A.sizeOf r = o.fields.length := by unfold AH.sizeOf; rw [q7]
    rw [word_obj φ ho]
    by_cases hi : 0 ≤ i ∧ i < o.fields.length
    · have e : A.setI r i y = A.setField r.ix i.toNat y := by unfold AH.setI; rw [if_pos ⟨ho, hi.1, by rw [hsz]; exact hi.2⟩]
      rw [e]
      obtain ⟨k, rfl⟩ : ∃ k : Nat, i = k := ⟨i.toNat, by omega⟩
      have hraw : o.raw = false := by
        cases e : o.raw
        · rfl
        · have := q6 e; rw [this] at hi; simp at hi; omega
      have hk : k < o.fields.length := by omega
      rw [Int.toNat_natCast]
      have hszo : o.size = 1 + o.fields.length := by unfold Ob.size; simp [hraw]
      refine (set_some h1 q8 _ o q3 (head_is o q4 q5) hraw k hk (by omega) _).mono ?_
      rintro e w' ⟨he, vc', vs', g1, g2, g3⟩
      exact ⟨he, h.prog ⟨bp, np, vc', vs', _, _, g1, h2.setField q2 q1 hraw hk hy, rfl, by omega, h5⟩ g2 g3⟩
    · have e : A.setI r i y = A := by unfold AH.setI; rw [if_neg (by rw [hsz]; omega)]
      rw [e]
      refine (set_none h1 q8 _ o q3 (head_is o q4 q5) q6 i _ (by omega)).mono ?_
      rintro e w' ⟨he, n, rfl⟩
      exact ⟨he, hq n⟩
end
end Go.Proofs.Ytlbiapgikkjooaa
