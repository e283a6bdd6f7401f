/- What the calls of a heap come to, fifth part: cleaning. -/
import Derived.Test.YtlbiapgikkjooaaHeapWalk4
import Derived.Deep.LoopGhost
namespace Go.Proofs.Ytlbiapgikkjooaa
open Go.RowKit Go.Maps Hp
set_option linter.unusedSimpArgs false
set_option linter.unusedVariables false
set_option linter.unusedSectionVars false

theorem Chg.belowTrans {F : List Nat} {a b c : World} (h : Chg F a b) (k : Below a.heap.size b c) : Chg F a c :=
  ⟨k.os.trans h.os, k.tape.trans h.tape, k.output.trans h.output, Nat.le_trans h.size k.size, fun i hi hn => (k.block i hi).trans (h.block i hi hn)⟩

/-- The first i words of the stack are those of the copies. -/
def mixed (A : AH) (φ : Nat → Nat) (order : List Nat) (i : Nat) : List Int := (A.stack.take i).map (word (offs A order)) ++ (A.stack.drop i).map (word φ)

section
variable {A : AH} {φ : Nat → Nat} {w w' : World} {p bp np lim : Nat} {vc vs : Value} {cells stack : List Int} {pins : Int → Option Int}

theorem mixed_length (order : List Nat) (i : Nat) : (mixed A φ order i).length = A.stack.length := by
  unfold mixed; rw [List.length_append, List.length_map, List.length_map, ← List.length_append, List.take_append_drop]
theorem mixed_zero (order : List Nat) : mixed A φ order 0 = A.stack.map (word φ) := by simp [mixed]
theorem mixed_all (order : List Nat) : mixed A φ order A.stack.length = A.stack.map (word (offs A order)) := by simp [mixed]
theorem mixed_get (order : List Nat) (i : Nat) (r : Ref) (h : A.stack[i]? = some r) : (mixed A φ order i)[i]? = some (word φ r) := by
  have hi := (List.getElem?_eq_some_iff.1 h).1
  unfold mixed
  rw [List.getElem?_append_right (by rw [List.length_map, List.length_take]; omega), List.length_map, List.length_take, List.getElem?_map, List.getElem?_drop]
  rw [show i + (i - min i A.stack.length) = i from by omega, h]; rfl
theorem mixed_next (order ext : List Nat) (i : Nat) (r : Ref) (h : A.stack[i]? = some r) (hin : ∀ j, j < i → ∀ s, A.stack[j]? = some s → s.obj = true → s.ix ∈ order) :
    (mixed A φ order i).set i (word (offs A (order ++ ext)) r) = mixed A φ (order ++ ext) (i + 1) := by
  have hi := (List.getElem?_eq_some_iff.1 h).1
  apply List.ext_getElem?
  intro j
  by_cases e : i = j
  · subst e
    rw [List.getElem?_set_self (by rw [mixed_length]; exact hi)]
    unfold mixed
    rw [List.getElem?_append_left (by rw [List.length_map, List.length_take]; omega), List.getElem?_map, List.getElem?_take_of_lt (by omega), h]; rfl
  · rw [List.getElem?_set_ne e]
    unfold mixed
    by_cases hj : j < i
    · rw [List.getElem?_append_left (by rw [List.length_map, List.length_take]; omega), List.getElem?_append_left (by rw [List.length_map, List.length_take]; omega), List.getElem?_map, List.getElem?_map, List.getElem?_take_of_lt hj, List.getElem?_take_of_lt (by omega)]
      cases hs : A.stack[j]? with
      | none => rfl
      | some s =>
        simp only [Option.map_some]
        congr 1
        exact word_same _ _ fun ho => (offs_append A order ext s.ix (hin j hj s hs ho)).symm
    · rw [List.getElem?_append_right (by rw [List.length_map, List.length_take]; omega), List.getElem?_append_right (by rw [List.length_map, List.length_take]; omega), List.length_map, List.length_map, List.length_take, List.length_take, List.getElem?_map, List.getElem?_map, List.getElem?_drop, List.getElem?_drop]
      rw [show i + (j - min i A.stack.length) = j from by omega, show i + 1 + (j - min (i + 1) A.stack.length) = j from by omega]
      
/-- While the stack is moved. -/
def Loop1 (A : AH) (φ : Nat → Nat) (w0 : World) (p bp np : Nat) (vc vs : Value) (lim : Nat) (cells : List Int) (pins : Int → Option Int) (pc bt : Nat) (k : Nat) (s : Value) (w : World) : Prop :=
  ∃ (i : Nat) (order : List Nat) (vt : Value) (to : List Int), i + k = A.stack.length ∧ s = .int .i64 i ∧ HeapIs w p bp np vc vs lim cells (mixed A φ order i) pins ∧ Cop A φ w pc bt w0.heap.size vc vt order 0 to ∧
    (∀ j, j < i → ∀ r, A.stack[j]? = some r → r.obj = true → r.ix ∈ order) ∧ Chg (foot p bp vc vs) w0 w

theorem cop_start (A : AH) (φ : Nat → Nat) (w : World) (vc : Value) : Cop A φ ((w.alloc (.map #[] 0)).alloc (.cells #[vc, .slice none 0 0, .map (some w.heap.size)] 90)) (w.heap.size + 1) w.heap.size w.heap.size vc (.slice none 0 0) [] 0 [] := by
  refine ⟨⟨0, fun _ => none, ⟨?_, Row.nil _ _, ?_, by omega, by simp [Value.ownBlock], by simp [Value.ownBlock]⟩, there_start A φ, Nat.le_refl _⟩, cinv_start A φ, Nat.le_refl _, by omega, Nat.le_refl _, by simp [Value.ownBlock]⟩
  · have := heap_alloc_new (w.alloc (.map #[] 0)) (.cells #[vc, .slice none 0 0, .map (some w.heap.size)] 90)
    simpa using this
  · exact (IMap.made w).chg ((Chg.refl [] _).alloc _) (by simp)

theorem loop1_start (h : HeapIs w p bp np vc vs lim cells (A.stack.map (word φ)) pins) : Loop1 A φ w p bp np vc vs lim cells pins (w.heap.size + 1) w.heap.size A.stack.length (.int .i64 0)
    ((w.alloc (.map #[] 0)).alloc (.cells #[vc, .slice none 0 0, .map (some w.heap.size)] 90)) :=
  ⟨0, [], _, _, by omega, rfl, by rw [mixed_zero]; exact (h.alloc _).alloc _, cop_start A φ w vc, fun j hj => by omega, ((Chg.refl _ w).alloc _).alloc _⟩

theorem chg_of_below {N : Nat} (h : Below N w w') : Chg (List.range' N w.heap.size) w w' :=
  ⟨h.os, h.tape, h.output, h.size, fun k hk hn => h.block k (by
    rcases Nat.lt_or_ge k N with e | e
    · exact e
    · exact absurd (List.mem_range'_1.2 ⟨e, by omega⟩) hn)⟩
theorem HeapIs.below {N : Nat} (h : HeapIs w p bp np vc vs lim cells stack pins) (hb : Below N w w') (hf : ∀ k ∈ foot p bp vc vs, k < N) : HeapIs w' p bp np vc vs lim cells stack pins :=
  h.chg (chg_of_below hb) fun k hk hm => by
    have := hf k hk
    have := (List.mem_range'_1.1 hm).1
    omega
theorem HeapIs.foot_lt (h : HeapIs w p bp np vc vs lim cells stack pins) {k : Nat} (hk : k ∈ foot p bp vc vs) : k < w.heap.size := by
  rcases mem_foot.1 hk with e | e | e | e
  · rw [e]; exact lt_of_block h.hdr
  · rw [e]; exact h.pm.lt
  · exact h.rc.lt e
  · exact h.rs.lt e

/-- A store into a word of the stack. -/
theorem HeapIs.setWord {g cap n : Nat} (h : HeapIs w p bp np vc (.slice (some ⟨g, 0, none⟩) n cap) lim cells stack pins) (j : Nat) (x : Int) :
    HeapIs (w.setCell ⟨g, j, none⟩ (.int .i64 x)) p bp np vc (.slice (some ⟨g, 0, none⟩) n cap) lim cells (stack.set j x) pins := by
  have hc : Chg [g] w (w.setCell ⟨g, j, none⟩ (.int .i64 x)) := (Chg.refl [g] w).setCell (p := ⟨g, j, none⟩) (.inl (by simp)) _
  refine ⟨(hc.block p (lt_of_block h.hdr) (by rw [List.mem_singleton]; rintro rfl; exact h.ne4 rfl)).trans h.hdr, h.rc.chg hc (fun k hk => by rw [List.mem_singleton]; rintro rfl; exact h.ne6 k hk rfl), ?_, h.pm.chg hc (by rw [List.mem_singleton]; rintro rfl; exact h.ne5 rfl), h.ne1, h.ne2, h.ne3, h.ne4, h.ne5, h.ne6⟩
  have := h.rs.stored j (.int .i64 x)
  rw [ints_set] at this
  exact this

theorem loop1_next {w0 wr : World} {pc bt g cap i k : Nat} {vt' : Value} {to' : List Int} {order ext : List Nat} {r : Ref} (h0 : ∀ k ∈ foot p bp vc (.slice (some ⟨g, 0, none⟩) A.stack.length cap), k < w0.heap.size)
    (hH : HeapIs wr p bp np vc (.slice (some ⟨g, 0, none⟩) A.stack.length cap) lim cells (mixed A φ order i) pins) (hbe : Below w0.heap.size wr.drew w') (hC' : Cop A φ w' pc bt w0.heap.size vc vt' (order ++ ext) 0 to')
    (hin : ∀ j, j < i → ∀ r, A.stack[j]? = some r → r.obj = true → r.ix ∈ order) (hr : A.stack[i]? = some r) (hin' : r.obj = true → r.ix ∈ order ++ ext) (hch : Chg (foot p bp vc (.slice (some ⟨g, 0, none⟩) A.stack.length cap)) w0 wr) (hik : i + 1 + k = A.stack.length) :
    Loop1 A φ w0 p bp np vc (.slice (some ⟨g, 0, none⟩) A.stack.length cap) lim cells pins pc bt k (.int .i64 ((i : Int) + 1)) (w'.setCell ⟨g, i, none⟩ (.int .i64 (word (offs A (order ++ ext)) r))) := by
  have hg := h0 g (mem_foot.2 (.inr (.inr (.inr rfl))))
  refine ⟨i + 1, order ++ ext, vt', to', hik, by simp, ?_, hC'.chg (G := [g]) ((Chg.refl _ _).setCell (p := ⟨g, i, none⟩) (.inl (by simp)) _) (by simpa using hg), ?_, ?_⟩
  · have := ((hH.drewN 1).below hbe h0).setWord i (word (offs A (order ++ ext)) r)
    rwa [mixed_next order ext i r hr hin] at this
  · intro j hj s hs ho
    rcases Nat.lt_succ_iff_lt_or_eq.1 hj with e | e
    · exact List.mem_append_left _ (hin j e s hs ho)
    · subst e
      rw [hr] at hs; cases hs
      exact hin' ho
  · exact ((hch.drewN 1).belowTrans hbe).setCell (p := ⟨g, i, none⟩) (.inl (mem_foot.2 (.inr (.inr (.inr rfl))))) _

/-- The pins, some of them moved. -/
def pinsNow (A : AH) (φ : Nat → Nat) (order : List Nat) (left : Int → Bool) : Int → Option Int := fun j => if left j then (A.pins j).map (word φ) else (A.pins j).map (word (offs A order))

/-- While the pins are moved. -/
def Loop2 (A : AH) (φ : Nat → Nat) (w0 : World) (p bp np : Nat) (vc vs : Value) (lim : Nat) (cells : List Int) (pc bt rb : Nat) (k : Nat) (w : World) : Prop :=
  ∃ (order : List Nat) (vt : Value) (to : List Int) (left : Int → Bool) (cnt : Nat), cnt ≤ k ∧ IRange Try.prog 3 22 w bp rb np (pinsNow A φ order left) left cnt ∧
    HeapIs w p bp np vc vs lim cells (A.stack.map (word (offs A order))) (pinsNow A φ order left) ∧ Cop A φ w pc bt w0.heap.size vc vt order 0 to ∧ rb ∉ cfoot pc bt vt ∧ w0.heap.size ≤ rb ∧
    (∀ r ∈ A.stack, r.obj = true → r.ix ∈ order) ∧ (∀ j, left j = false → ∀ r, A.pins j = some r → r.obj = true → r.ix ∈ order) ∧ (∀ j, left j = true → (A.pins j).isSome = true) ∧ Chg (foot p bp vc vs) w0 w

theorem IRange.store {P : Program} {K E : TypeId} {b r n cnt : Nat} {f : Int → Option Int} {left : Int → Bool} (h : IRange P K E w b r n f left cnt) {t : TypeId} (hk : P.underlying K = some (.int .i64)) (ht : P.underlying t = some (.map K E)) (he : P.underlying E = some (.int .i64))
    (hn : n < maxLen) {key val : Int} (hkw : (Lit.int .i64 key).wf = true) (hvw : (Lit.int .i64 val).wf = true) (hhas : (f key).isSome = true) :
    ∃ w', (Instr.mapUpdate t (.map (some b)) (.int .i64 key) (.int .i64 val)).run P w = .ok () w' ∧ IRange P K E w' b r n (fun j => if j = key then some val else f j) left cnt ∧ w.grownBy w' (some b) ∧ w'.heap.size = w.heap.size := by
  obtain ⟨D, L, hrg, hf, hl⟩ := h
  obtain ⟨w', hrun, hrg', hgr, hsz⟩ := ranges_store hk ht he hrg hn hkw hvw (by rw [← mapAt_isSome, hf key]; exact hhas)
  refine ⟨w', hrun, ⟨D.put (.int .i64 key) (.lit (.int .i64 val)), L, hrg', fun j => ?_, hl⟩, hgr, hsz⟩
  rw [mapAt_put (IMap.isMap hrg.owns) ((int_keyed hk).key (keyOf_int_mk hk hkw)), hf j]
theorem IRange.congr {P : Program} {K E : TypeId} {b r n cnt : Nat} {f f' : Int → Option Int} {left : Int → Bool} (h : IRange P K E w b r n f left cnt) (hf : ∀ j, f j = f' j) : IRange P K E w b r n f' left cnt := by
  obtain ⟨D, L, h1, h2, h3⟩ := h
  exact ⟨D, L, h1, fun j => (h2 j).trans (hf j), h3⟩

theorem word_wf {r : Ref} {ψ : Nat → Nat} (hr : A.Ok r) (hψ : r.obj = true → ψ r.ix ≤ 4194304) : (Lit.int .i64 (word ψ r)).wf = true := by
  apply WalkArith.wf_i64
  cases hb : r.obj
  · have := ok_int hr hb
    unfold word; rw [hb]; simp only [Bool.false_eq_true, if_false]; omega
  · have := hψ hb
    rw [word_obj ψ hb]; omega

theorem Cop.chg' {G : List Nat} {pc bt N q : Nat} {vf vt : Value} {order : List Nat} {to : List Int} (h : Cop A φ w pc bt N vf vt order q to) (hc : Chg G w w') (hd : ∀ k ∈ G, k ∉ cfoot pc bt vt) : Cop A φ w' pc bt N vf vt order q to := by
  obtain ⟨nt, th, h1, h2, h3⟩ := h.lies
  exact ⟨⟨nt, th, h1.chg hc (fun k hk hg => hd k hg hk), h2, h3⟩, h.inv, h.le, h.pcN, h.btN, h.vtN⟩

theorem loop2_start {order : List Nat} {vt : Value} {to : List Int} {w0 wr w1 : World} {pc bt cnt : Nat} (hH : HeapIs wr p bp np vc vs lim cells (A.stack.map (word (offs A order))) (fun k => (A.pins k).map (word φ)))
    (h0 : ∀ k ∈ foot p bp vc vs, k < w0.heap.size)
    (hC : Cop A φ wr pc bt w0.heap.size vc vt order 0 to) (hst : ∀ r ∈ A.stack, r.obj = true → r.ix ∈ order) (hch : Chg (foot p bp vc vs) w0 wr) (hg : wr.grownBy w1 none)
    (hI : IRange Try.prog 3 22 w1 bp wr.heap.size np (fun k => (A.pins k).map (word φ)) (fun k => ((A.pins k).map (word φ)).isSome) cnt) :
    Loop2 A φ w0 p bp np vc vs lim cells pc bt wr.heap.size cnt w1 := by
  have hc1 : Chg [] wr w1 := Chg.grownNone hg
  have hf : ∀ j, (A.pins j).map (word φ) = pinsNow A φ order (fun k => ((A.pins k).map (word φ)).isSome) j := fun j => by
    unfold pinsNow
    cases hj : A.pins j <;> simp [hj]
  have hH1 := hH.chg hc1 (fun _ _ => by simp)
  refine ⟨order, vt, to, _, cnt, Nat.le_refl _, hI.congr hf, ⟨hH1.hdr, hH1.rc, hH1.rs, hH1.pm.congr hf, hH1.ne1, hH1.ne2, hH1.ne3, hH1.ne4, hH1.ne5, hH1.ne6⟩, hC.chg hc1 (by simp), fun hm => ?_, hch.size, hst, ?_, ?_, ?_⟩
  · obtain ⟨nt, th, hI, _⟩ := hC.lies
    rcases mem_cfoot.1 hm with e | e | e
    · have := lt_of_block hI.hdr; omega
    · have := hI.tm.lt; omega
    · have := hI.rt.lt e; omega
  · intro j hl r hr
    rw [hr] at hl; simp at hl
  · intro j hj
    simpa using hj
  · exact hch.trans hc1 (fun k hk => by simp at hk)

theorem loop2_next {rb cnt k : Nat} {order ext : List Nat} {vt vt' : Value} {to' : List Int} {left : Int → Bool} {w0 w1 w2 w3 : World} {pc bt : Nat} {x : Int} {r : Ref}
    (h0 : ∀ k ∈ foot p bp vc vs, k < w0.heap.size) (hk : cnt ≤ k) (hx : A.pins x = some r) (hlx : left x = true)
    (hH : HeapIs w1 p bp np vc vs lim cells (A.stack.map (word (offs A order))) (pinsNow A φ order left)) (hC' : Cop A φ w2 pc bt w0.heap.size vc vt' (order ++ ext) 0 to') (hN : w0.heap.size ≤ w1.heap.size)
    (hcc : ∀ k ∈ cfoot pc bt vt, w0.heap.size ≤ k) (hrb : rb ∉ cfoot pc bt vt) (hrb2 : w0.heap.size ≤ rb) (hrb3 : rb < w1.heap.size) (hcg : Chg (cfoot pc bt vt) w1 w2) (hwi : Within (cfoot pc bt vt) (cfoot pc bt vt') w1.heap.size)
    (hI : IRange Try.prog 3 22 w3 bp rb np (fun j => if j = x then some (word (offs A (order ++ ext)) r) else pinsNow A φ order left j) (fun z => left z && !(z == x)) cnt) (hg : w2.grownBy w3 (some bp))
    (hst : ∀ r ∈ A.stack, r.obj = true → r.ix ∈ order) (hdone : ∀ j, left j = false → ∀ r, A.pins j = some r → r.obj = true → r.ix ∈ order) (hleft : ∀ j, left j = true → (A.pins j).isSome = true) (hin' : r.obj = true → r.ix ∈ order ++ ext) (hch : Chg (foot p bp vc vs) w0 w1) :
    Loop2 A φ w0 p bp np vc vs lim cells pc bt rb k w3 := by
  have hc3 : Chg [bp] w2 w3 := (Chg.refl _ _).grown hg (fun k hk => .inl (by cases hk; simp))
  have hbe : Below w0.heap.size w1 w2 := hcg.below hN hcc
  have hbp : bp < w0.heap.size := h0 bp (mem_foot.2 (.inr (.inl rfl)))
  have hf : ∀ j, (if j = x then some (word (offs A (order ++ ext)) r) else pinsNow A φ order left j) = pinsNow A φ (order ++ ext) (fun z => left z && !(z == x)) j := fun j => by
    unfold pinsNow
    by_cases e : j = x
    · subst e; simp [hx]
    · simp only [e, if_false]
      have e2 : (j == x) = false := by simp [e]
      simp only [e2, Bool.not_false, Bool.and_true]
      cases hl : left j
      · simp only [Bool.false_eq_true, if_false]
        cases hj : A.pins j with
        | none => rfl
        | some s => exact congrArg some (word_same _ _ fun ho => (offs_append A order ext s.ix (hdone j hl s hj ho)).symm)
      · rfl
  have hs : A.stack.map (word (offs A order)) = A.stack.map (word (offs A (order ++ ext))) := List.map_congr_left fun s hs => word_same _ _ fun ho => (offs_append A order ext s.ix (hst s hs ho)).symm
  have hH2 := hH.below hbe h0
  have hIm := (hI.congr hf).owns
  refine ⟨order ++ ext, vt', to', _, cnt, hk, hI.congr hf, ⟨?_, ?_, ?_, hIm, hH.ne1, hH.ne2, hH.ne3, hH.ne4, hH.ne5, hH.ne6⟩, hC'.chg hc3 (by simpa using hbp), fun hm => ?_, hrb2, ?_, ?_, ?_, ?_⟩
  · exact (hc3.block p (lt_of_block hH2.hdr) (by simpa using hH.ne1)).trans hH2.hdr
  · exact hH2.rc.chg hc3 (fun k hk => by rw [List.mem_singleton]; rintro rfl; exact hH.ne3 hk)
  · rw [← hs]; exact hH2.rs.chg hc3 (fun k hk => by rw [List.mem_singleton]; rintro rfl; exact hH.ne5 hk)
  · rcases hwi rb hm with e | e
    · exact hrb e
    · omega
  · exact fun s hs ho => List.mem_append_left _ (hst s hs ho)
  · intro j hl s hj ho
    by_cases e : j = x
    · subst e; rw [hx] at hj; cases hj; exact hin' ho
    · have e2 : (j == x) = false := by simp [e]
      simp only [e2, Bool.not_false, Bool.and_true] at hl
      exact List.mem_append_left _ (hdone j hl s hj ho)
  · intro j hl
    simp only [Bool.and_eq_true] at hl
    exact hleft j hl.1
  · exact (hch.belowTrans hbe).trans (hc3.mono (F' := foot p bp vc vs) (fun k hk => by rw [List.mem_singleton] at hk; exact mem_foot.2 (.inr (.inl hk)))) (Within.refl _ _)

/-- While the copies are gone through, cell q being the next. -/
structure Scan (A : AH) (φ : Nat → Nat) (w0 : World) (p bp np : Nat) (vc vs : Value) (lim : Nat) (cells : List Int) (pc bt : Nat) (order : List Nat) (vt : Value) (q : Nat) (to : List Int) (w : World) : Prop where
  heap : HeapIs w p bp np vc vs lim cells (A.stack.map (word (offs A order))) (fun j => (A.pins j).map (word (offs A order)))
  cop : Cop A φ w pc bt w0.heap.size vc vt order q to
  roots : ∀ r, A.Root r → r.obj = true → r.ix ∈ order
  chg : Chg (foot p bp vc vs) w0 w

def Loop3 (A : AH) (φ : Nat → Nat) (w0 : World) (p bp np : Nat) (vc vs : Value) (lim : Nat) (cells : List Int) (pc bt : Nat) (k : Nat) (s : Value) (w : World) : Prop :=
  ∃ (order : List Nat) (vt : Value) (to : List Int) (q T : Nat), q ≤ order.length ∧ T = total A (order.take q) ∧ s = .int .i64 T ∧ T + k = cells.length ∧ Scan A φ w0 p bp np vc vs lim cells pc bt order vt T to w

def Loop4 (A : AH) (φ : Nat → Nat) (w0 : World) (p bp np : Nat) (vc vs : Value) (lim : Nat) (cells : List Int) (pc bt : Nat) (order0 : List Nat) (T n : Nat) (k : Nat) (s : Value) (w : World) : Prop :=
  ∃ (order : List Nat) (vt : Value) (to : List Int) (c : Nat), c + k = n ∧ s = .int .i64 c ∧ (∃ ext, order = order0 ++ ext) ∧ Scan A φ w0 p bp np vc vs lim cells pc bt order vt (T + 1 + c) to w

section
variable {pc bt : Nat} {vt : Value} {to : List Int} {order : List Nat} {q T : Nat} {w0 : World}

theorem scan_start {left : Int → Bool} (hno : ∀ j, left j = false) (h : HeapIs w p bp np vc vs lim cells (A.stack.map (word (offs A order))) (pinsNow A φ order left)) (hC : Cop A φ w pc bt w0.heap.size vc vt order 0 to)
    (hst : ∀ r ∈ A.stack, r.obj = true → r.ix ∈ order) (hdone : ∀ j, left j = false → ∀ r, A.pins j = some r → r.obj = true → r.ix ∈ order) (hch : Chg (foot p bp vc vs) w0 w) :
    Loop3 A φ w0 p bp np vc vs lim cells pc bt cells.length (.int .i64 0) w := by
  have e : pinsNow A φ order left = fun j => (A.pins j).map (word (offs A order)) := by
    funext j; unfold pinsNow; rw [hno j]; rfl
  rw [e] at h
  exact ⟨order, vt, to, 0, 0, by omega, by simp [total], rfl, by omega, h, hC, fun r hr ho => by
    rcases hr with hr | ⟨k, hk⟩
    · exact hst r hr ho
    · exact hdone k (hno k) r hk ho, hch⟩

theorem Cop.vtForm {N : Nat} {vf : Value} (h : Cop A φ w pc bt N vf vt order q to) (hne : 0 < to.length) : ∃ tg tcap, vt = .slice (some ⟨tg, 0, none⟩) to.length tcap ∧ w.cell? ⟨pc, 1, none⟩ = some (.slice (some ⟨tg, 0, none⟩) to.length tcap) ∧ N ≤ tg ∧
    ∀ j x, to[j]? = some x → w.cell? ⟨tg, j, none⟩ = some (.int .i64 x) ∧ w.frozen? ⟨tg, j, none⟩ = false := by
  obtain ⟨nt, th, hI, _⟩ := h.lies
  have hsh := hI.rt.shape
  rw [ints_length] at hsh
  rcases hsh with ⟨_, hn⟩ | ⟨tg, tcap, rfl, _, _, _⟩
  · have : to.length = 0 := by rw [← ints_length, hn]; rfl
    omega
  refine ⟨tg, tcap, rfl, hI.c1, h.vtN tg rfl, fun j x hx => ⟨?_, hI.rt.frozenAt j⟩⟩
  have := hI.rt.cellAt j (by rw [ints_length]; exact (List.getElem?_eq_some_iff.1 hx).1)
  rw [ints_get, hx] at this
  exact this
theorem Scan.vtForm (h : Scan A φ w0 p bp np vc vs lim cells pc bt order vt q to w) (hne : 0 < to.length) : ∃ tg tcap, vt = .slice (some ⟨tg, 0, none⟩) to.length tcap ∧ w.cell? ⟨pc, 1, none⟩ = some (.slice (some ⟨tg, 0, none⟩) to.length tcap) ∧ w0.heap.size ≤ tg ∧
    ∀ j x, to[j]? = some x → w.cell? ⟨tg, j, none⟩ = some (.int .i64 x) ∧ w.frozen? ⟨tg, j, none⟩ = false := h.cop.vtForm hne

theorem Scan.len (h : Scan A φ w0 p bp np vc vs lim cells pc bt order vt q to w) (hrep : Rep A φ cells stack pins) : to.length ≤ cells.length := by
  rw [h.cop.inv.len]; exact hrep.total_le _ h.cop.inv.nodup h.cop.inv.reach

theorem Scan.head (h : Scan A φ w0 p bp np vc vs lim cells pc bt order vt T to w) (hrep : Rep A φ cells stack pins) (hlim : A.limit ≤ 4194304) (hq : q ≤ order.length) (hT : T = total A (order.take q)) (hlt : T < to.length) :
    ∃ i o, i ∈ order ∧ q < order.length ∧ A.objs[i]? = some o ∧ offs A order i = T ∧ to[T]? = some (head o) ∧ HeadIs (head o) o ∧ T + o.size ≤ to.length ∧ sizeAt A i = o.size ∧ (o.raw = true → o.fields = []) ∧ total A (order.take (q + 1)) = T + o.size := by
  have hql : q < order.length := by
    rcases Nat.lt_or_ge q order.length with e | e
    · exact e
    · rw [List.take_of_length_le e] at hT
      have := h.cop.inv.len
      omega
  have hi : order[q] ∈ order := List.getElem_mem hql
  have hre := h.cop.inv.reach _ hi
  obtain ⟨o, ho⟩ : ∃ o, A.objs[order[q]]? = some o := ⟨_, List.getElem?_eq_getElem (hrep.wf.there _ hre)⟩
  have hof : offs A order order[q] = T := by rw [offs_at A order q h.cop.inv.nodup hql, hT]
  have hs : sizeAt A order[q] = o.size := by simp [sizeAt, ho]
  have hle := offs_le A order _ hi
  have hlen := h.cop.inv.len
  have hk := hrep.wf.obj _ _ hre ho
  have hto := h.len hrep
  have hr := hrep.room
  refine ⟨order[q], o, hi, hql, ho, hof, ?_, head_is o hk.1 (by omega), by omega, hs, hk.2.1, ?_⟩
  · have := h.cop.inv.head _ hi _ ho
    rwa [hof] at this
  · rw [take_succ_total A order q hql, hs, hT]

theorem Scan.atP (h : Scan A φ w0 p bp np vc vs lim cells pc bt order vt q to w) {q' : Nat} (hi : CInv A φ order q' to) (hle : q' ≤ to.length) : Scan A φ w0 p bp np vc vs lim cells pc bt order vt q' to w :=
  ⟨h.heap, ⟨h.cop.lies, hi, hle, h.cop.pcN, h.cop.btN, h.cop.vtN⟩, h.roots, h.chg⟩

/-- A field has been moved, and is stored. -/
theorem Scan.turned {ext : List Nat} {vt' : Value} {to' : List Int} {w1 : World} {i c tg n tcap : Nat} {o : Ob} {r : Ref} (h : Scan A φ w0 p bp np vc vs lim cells pc bt order vt (T + 1 + c) to w) (h0 : ∀ k ∈ foot p bp vc vs, k < w0.heap.size)
    (hi : i ∈ order) (ho : A.objs[i]? = some o) (hr : o.raw = false) (hx : o.fields[c]? = some r) (hof : offs A order i = T)
    (hC : Cop A φ w1 pc bt w0.heap.size vc vt' (order ++ ext) (T + 1 + c) to') (hv : vt' = .slice (some ⟨tg, 0, none⟩) n tcap) (hcg : Chg (cfoot pc bt vt) w w1) (hin : r.obj = true → r.ix ∈ order ++ ext) (hlt : T + 1 + c < to'.length) :
    Scan A φ w0 p bp np vc vs lim cells pc bt (order ++ ext) vt' (T + 1 + (c + 1)) (to'.set (T + 1 + c) (word (offs A (order ++ ext)) r)) (w1.setCell ⟨tg, T + 1 + c, none⟩ (.int .i64 (word (offs A (order ++ ext)) r))) := by
  subst hv
  have htg := hC.vtN tg rfl
  have hbe : Below w0.heap.size w w1 := hcg.below h.chg.size (fun k hk => h.cop.foot hk)
  have hs : A.stack.map (word (offs A order)) = A.stack.map (word (offs A (order ++ ext))) := List.map_congr_left fun s hs => word_same _ _ fun ho => (offs_append A order ext s.ix (h.roots s (.inl hs) ho)).symm
  have hp : (fun j => (A.pins j).map (word (offs A order))) = fun j => (A.pins j).map (word (offs A (order ++ ext))) := by
    funext j
    cases hj : A.pins j with
    | none => rfl
    | some s => exact congrArg some (word_same _ _ fun ho => (offs_append A order ext s.ix (h.roots s (.inr ⟨j, hj⟩) ho)).symm)
  have hc2 : Chg [tg] w1 (w1.setCell ⟨tg, T + 1 + c, none⟩ (.int .i64 (word (offs A (order ++ ext)) r))) := (Chg.refl _ _).setCell (p := ⟨tg, T + 1 + c, none⟩) (.inl (by simp)) _
  have hof' : offs A (order ++ ext) i = T := by rw [offs_append A order ext i hi, hof]
  refine ⟨?_, ⟨?_, ?_, ?_, hC.pcN, hC.btN, hC.vtN⟩, fun s hs ho => List.mem_append_left _ (h.roots s hs ho), ?_⟩
  · have := (h.heap.below hbe h0).chg hc2 (fun k hk => by have := h0 k hk; rw [List.mem_singleton]; omega)
    rw [hs, hp] at this
    exact this
  · obtain ⟨nt, th, hI, h2, h3⟩ := hC.lies
    refine ⟨nt, th, ⟨?_, ?_, ?_, hI.ne1, hI.ne2, hI.ne3⟩, h2, h3⟩
    · exact (hc2.block pc (lt_of_block hI.hdr) (by rw [List.mem_singleton]; rintro rfl; exact hI.ne2 rfl)).trans hI.hdr
    · have := hI.rt.stored (T + 1 + c) (.int .i64 (word (offs A (order ++ ext)) r))
      rw [ints_set] at this
      exact this
    · exact hI.tm.chg hc2 (by rw [List.mem_singleton]; rintro rfl; exact hI.ne3 rfl)
  · have := CInv.turn (order := order ++ ext) (to := to') (List.mem_append_left _ hi) ho hr hx (by rw [hof']; exact hC.inv) hin
    rw [hof'] at this
    exact this
  · rw [List.length_set]; omega
  · exact ((h.chg.belowTrans hbe).trans (F' := [tg]) hc2 (fun k hk => by rw [List.mem_singleton] at hk; right; omega))

theorem loop4_start {i n : Nat} (h : Scan A φ w0 p bp np vc vs lim cells pc bt order vt T to w) (hi : i ∈ order) (hof : offs A order i = T) (hlt : T < to.length) : Loop4 A φ w0 p bp np vc vs lim cells pc bt order T n n (.int .i64 0) w := by
  refine ⟨order, vt, to, 0, by omega, rfl, ⟨[], (List.append_nil _).symm⟩, ?_⟩
  refine h.atP ?_ (by omega)
  have := CInv.skipHead (to := to) (φ := φ) hi (by rw [hof]; exact h.cop.inv)
  rwa [hof] at this

theorem Scan.fieldAt {i c : Nat} {o : Ob} {r : Ref} (h : Scan A φ w0 p bp np vc vs lim cells pc bt order vt (T + 1 + c) to w) (hi : i ∈ order) (ho : A.objs[i]? = some o) (hr : o.raw = false) (hx : o.fields[c]? = some r) (hof : offs A order i = T) :
    T + 1 + c < to.length ∧ to[T + 1 + c]? = some (word φ r) := by
  have h1 := h.cop.inv.field i hi o ho hr c r hx
  rw [hof, if_neg (by omega)] at h1
  exact ⟨(List.getElem?_eq_some_iff.1 h1).1, h1⟩

theorem loop3_next {n k : Nat} {o : Ob} {order2 : List Nat} (hpre : ∃ ext, order2 = order ++ ext) (h : Scan A φ w0 p bp np vc vs lim cells pc bt order2 vt (T + 1 + n) to w) (hq : q < order.length) (hn : o.size = n + 1) (hnx : total A (order.take (q + 1)) = T + o.size) (hk : T + 1 + n + k = cells.length) :
    Loop3 A φ w0 p bp np vc vs lim cells pc bt k (.int .i64 ((T : Int) + (1 + (n : Int)))) w := by
  obtain ⟨ext, rfl⟩ := hpre
  refine ⟨order ++ ext, vt, to, q + 1, T + 1 + n, by rw [List.length_append]; omega, ?_, ?_, hk, h⟩
  · rw [List.take_append_of_le_length (by omega), hnx]; omega
  · congr 1; omega

theorem loop3_raw {i n k : Nat} {o : Ob} (h : Scan A φ w0 p bp np vc vs lim cells pc bt order vt T to w) (hi : i ∈ order) (ho : A.objs[i]? = some o) (hr : o.raw = true) (hof : offs A order i = T) (hs : sizeAt A i = o.size) (hle : T + o.size ≤ to.length)
    (hq : q < order.length) (hn : o.size = n + 1) (hnx : total A (order.take (q + 1)) = T + o.size) (hk : T + 1 + n + k = cells.length) : Loop3 A φ w0 p bp np vc vs lim cells pc bt k (.int .i64 ((T : Int) + (1 + (n : Int)))) w := by
  have := CInv.skipRaw (to := to) (φ := φ) hi ho hr (by rw [hof]; exact h.cop.inv)
  rw [hof, hs, hn] at this
  have h2 := h.atP this (by omega)
  refine loop3_next (order2 := order) (vt := vt) (to := to) (o := o) ⟨[], (List.append_nil _).symm⟩ ?_ hq hn hnx hk
  rw [show T + 1 + n = T + (n + 1) from by omega]
  exact h2

theorem scan_end (h : Scan A φ w0 p bp np vc vs lim cells pc bt order vt to.length to w) (hrep : Rep A φ cells stack pins) (h0 : ∀ k ∈ foot p bp vc vs, k < w0.heap.size) :
    HeapIs (w.setCell ⟨p, 1, none⟩ vt) p bp np vt vs lim to (A.stack.map (word (offs A order))) (fun j => (A.pins j).map (word (offs A order))) ∧ Rep A (offs A order) to (A.stack.map (word (offs A order))) (fun j => (A.pins j).map (word (offs A order))) ∧
      to.length = A.live ∧ Chg (foot p bp vc vs) w0 (w.setCell ⟨p, 1, none⟩ vt) ∧ Within (foot p bp vc vs) (foot p bp vt vs) w0.heap.size := by
  obtain ⟨h1, h2⟩ := clean_done hrep h.cop.inv h.roots
  obtain ⟨nt, th, hI, _⟩ := h.cop.lies
  refine ⟨h.heap.setCells hI.rt (.inr fun k hk => ?_), h1, h2, h.chg.setCell (p := ⟨p, 1, none⟩) (.inl (mem_foot.2 (.inl rfl))) _, fun k hk => ?_⟩
  · have hN := h.cop.vtN k hk
    refine ⟨?_, ?_, fun e => ?_⟩
    · have := h0 p (mem_foot.2 (.inl rfl)); omega
    · have := h0 bp (mem_foot.2 (.inr (.inl rfl))); omega
    · have := h0 k (mem_foot.2 (.inr (.inr (.inr e)))); omega
  · rcases mem_foot.1 hk with e | e | e | e
    · exact .inl (mem_foot.2 (.inl e))
    · exact .inl (mem_foot.2 (.inr (.inl e)))
    · exact .inr (h.cop.vtN k e)
    · exact .inl (mem_foot.2 (.inr (.inr (.inr e))))
end

set_option maxRecDepth 100000 in
theorem clean_any (h : HeapIs w p bp np vc vs lim cells stack pins) (hrep : Rep A φ cells stack pins) (hlim : A.limit ≤ 4194304) (hst : stack.length < 1000000000) (hnp : np < 1000000000) :
    Calls Try.prog 48 #[.pointer (some ⟨p, 0, none⟩)] w fun e w' => e = .returned (.tuple #[]) ∧ ∃ vc' φ' cells' stack' pins', HeapIs w' p bp np vc' vs lim cells' stack' pins' ∧ Rep A φ' cells' stack' pins' ∧
      cells'.length = A.live ∧ Chg (foot p bp vc vs) w w' ∧ Within (foot p bp vc vs) (foot p bp vc' vs) w.heap.size := by
  obtain rfl : stack = A.stack.map (word φ) := hrep.stack
  obtain rfl : pins = fun k => (A.pins k).map (word φ) := funext hrep.pins
  obtain ⟨ao, scap, rfl, hsc, hsm, hn, hs⟩ := h.rs.form
  obtain ⟨co, ccap, rfl, hcc, hcm, hcn, hcs⟩ := h.rc.form
  rw [List.length_map] at hst
  simp only [ints_length, List.length_map] at h hsc hcc ⊢
  have c1 := h.c1
  have c2 := h.c2
  have c3 := h.c3
  have H := Lib.hid h
  have R := Lib.hid hrep
  clear h hn hs hcn hcs hrep
  have hmm := @run_makeMap Try.prog
  have a2 : ∀ o1 o2, ((w.alloc o1).alloc o2).cell? ⟨p, 2, none⟩ = some (.slice ao A.stack.length scap) := fun o1 o2 => ((H.out.alloc o1).alloc o2).c2
  have a3 : ∀ o1 o2, ((w.alloc o1).alloc o2).cell? ⟨p, 3, none⟩ = some (.map (some bp)) := fun o1 o2 => ((H.out.alloc o1).alloc o2).c3
  go_enter Try.func48, Try.ntmps48
  go_wp2
  clear a2 a3 hmm c1 c2 c3
  go_loopg [24] A.stack.length (fun k s wr => Loop1 A φ w p bp np (.slice co cells.length ccap) (.slice ao A.stack.length scap) lim cells (fun k => (A.pins k).map (word φ)) (w.heap.size + 1) w.heap.size k s wr)
  case atStart => exact loop1_start H.out
  case round =>
    obtain ⟨i, order, vt, to, hik, rfl, hH, hC, hin, hch⟩ := hrel
    by_cases hlt : i < A.stack.length
    · have hsh := hH.rs.shape
      rw [ints_length, mixed_length] at hsh
      rcases hsh with ⟨_, hn⟩ | ⟨g, cap', hv, _, _, hgs⟩
      · exfalso
        have : (ints (mixed A φ order i)).length = 0 := by rw [hn]; rfl
        rw [ints_length, mixed_length] at this
        omega
      injection hv with e1 e2 e3
      subst e1
      subst e3
      obtain ⟨r, hr⟩ : ∃ r, A.stack[i]? = some r := ⟨_, List.getElem?_eq_getElem hlt⟩
      have cg : wr.cell? ⟨g, i, none⟩ = some (.int .i64 (word φ r)) := by
        have := hH.rs.cellAt i (by rw [ints_length, mixed_length]; exact hlt)
        rw [ints_get, mixed_get _ _ _ hr] at this
        exact this
      have fg : wr.frozen? ⟨g, i, none⟩ = false := hH.rs.frozenAt i
      have d2 := hH.c2
      have hb1 : 0 ≤ (i : Int) := by omega
      have hb2 : (i : Int) < (A.stack.length : Int) := by omega
      have hgp : g ≠ p := fun e => hH.ne4 (by rw [e]; rfl)
      have HF : Hid (∀ k, (Value.slice co cells.length ccap).ownBlock = some k → k < w.heap.size) := fun k hk => H.out.rc.lt hk
      have HG := Lib.hid hch
      have HS : Hid (w.heap.size ≤ wr.heap.size) := hch.size
      have OK : Hid (A.Ok r) := R.out.wf.ok_root (.inl (List.mem_of_getElem? hr))
      have hgw : Hid (g < w.heap.size) := H.out.rs.lt rfl
      have hpw : Hid (p < w.heap.size) := lt_of_block H.out.hdr
      have HH := Lib.hid hH
      have HC := Lib.hid hC
      have HI := Lib.hid hin
      have HR := Lib.hid hr
      clear hH hC hin hr
      go_wp2
      go_region_held3 (fun w' => w'.cell? ⟨p, 2, none⟩ = some (.slice (some ⟨g, 0, none⟩) A.stack.length scap)) (go_keep)
        ((go_at_call 54; refine (move_any R.out hlim (HC.out.chg ((Chg.refl [] _).drewN 1) (by simp)) ((HH.out.drewN 1).rc) HF.out HS.out OK.out).mono ?_; rintro e w' ⟨ext, vt', to', rfl, hC', hin', hlen', hcg, hwi⟩; have hbe := hcg.below HS.out (fun k hk => HC.out.foot hk); clear hcg hwi; have k2 := (hbe.cell (p := ⟨p, 2, none⟩) hpw.out).trans d2; have k3 := (hbe.cell (p := ⟨g, i, none⟩) hgw.out).trans cg; have k4 := (hbe.frozen (p := ⟨g, i, none⟩) hgw.out).trans fg; have HC' := Lib.hid hC'; have HI' := Lib.hid hin'; have HB := Lib.hid hbe; clear hC' hin' hbe))
      go_wp2
      go_roundg (gk - 1)
      case measure => omega
      case rel =>
        exact loop1_next (fun k hk => H.out.foot_lt hk) HH.out HB.out HC'.out HI.out HR.out HI'.out HG.out (by omega)
    · obtain rfl : i = A.stack.length := by omega
      have hsl : Hid (∀ r ∈ A.stack, r.obj = true → r.ix ∈ order) := fun r hr => by
        obtain ⟨j, hj⟩ := List.getElem?_of_mem hr
        exact hin j (List.getElem?_eq_some_iff.1 hj).1 r hj
      rw [mixed_all] at hH
      have d2 := hH.c2
      have d3 := hH.c3
      have HH := Lib.hid hH
      have HC := Lib.hid hC
      have HG := Lib.hid hch
      clear hH hC hin hch hik
      go_wp2_with (at_range; refine wpList_range_imap rfl _ 73 rfl Try.underlying3 Try.underlying73 HH.out.pm rfl ?_; intro w1 cnt hI hg1 hs1)
      go_frame
      have HL := Lib.hid (loop2_start HH.out (fun k hk => H.out.foot_lt hk) HC.out hsl.out HG.out hg1 hI)
      clear hI hs1 hg1 hsl HH HC HG d2 d3
      generalize wr.heap.size = rb at HL ⊢
      go_loopg [44] cnt (fun k _ w2 => Loop2 A φ w p bp np (.slice co cells.length ccap) (.slice ao A.stack.length scap) lim cells (w.heap.size + 1) w.heap.size rb k w2)
      case atStart => exact HL.out
      case round =>
        clear HL
        obtain ⟨order, vt, to, left, cnt, hck, hI, hH, hC, hrb, hrb2, hst, hdone, hleft, hch⟩ := hrel
        have hsl := Lib.hid hst
        have hdn := Lib.hid hdone
        have hlf := Lib.hid hleft
        have HH := Lib.hid hH
        have HC := Lib.hid hC
        have HG := Lib.hid hch
        have HI := Lib.hid hI
        clear hH hC hst hdone hleft hch hI
        go_wp2_with (at_next; refine wpList_next_imap rfl _ rfl Try.underlying3 Try.underlying22 rfl HI.out ?_ ?_)
        · intro hno
          have HL := Lib.hid (scan_start hno HH.out HC.out hsl.out hdn.out HG.out)
          clear HH HC hsl hdn HG hlf HI hrb hrb2 hck hno
          go_wp2
          go_loopg [7] cells.length (fun k s wr => Loop3 A φ w p bp np (.slice co cells.length ccap) (.slice ao A.stack.length scap) lim cells (w.heap.size + 1) w.heap.size k s wr)
          case atStart => exact HL.out
          case round =>
            clear HL
            obtain ⟨order, vt, to, q, T, hq, hT, rfl, hTk, hS⟩ := hrel
            have HT := Lib.hid hT
            have HS := Lib.hid hS
            have hle := hS.cop.le
            have hto := hS.len R.out
            have hro := R.out.room
            clear hT hS
            by_cases hlt : T < to.length
            · obtain ⟨tg, tcap, rfl, d1, htN, hcell⟩ := HS.out.vtForm (by omega)
              obtain ⟨i, o, hi, hql, ho, hof, hTo, hh, hTs, hsz, hraw, hnx⟩ := HS.out.head R.out hlim hq HT.out hlt
              have dh := (hcell _ _ hTo).1
              have hb1 : 0 ≤ (T : Int) := by omega
              have hb2 : (T : Int) < (to.length : Int) := by omega
              have HH := Lib.hid hh
              have hrw := hh.raw
              have sz1 : 1 ≤ o.size := by unfold Ob.size; omega
              obtain ⟨nn, hnn⟩ : ∃ nn, o.size = nn + 1 := ⟨o.size - 1, by omega⟩
              have hb3 : T + nn + 1 ≤ 4194304 := by omega
              have ND : ∀ w0 : World, Calls Try.prog 50 #[.int .i64 (head o)] w0 fun e w' => e = .returned (.int .i64 (nn : Int)) ∧ w0 = w' := fun w0 => by
                have := need_any _ _ HH.out w0
                rw [show o.size - 1 = nn from by omega] at this
                exact this
              have HO := Lib.hid ho
              have HF := Lib.hid hof
              have HN := Lib.hid hnx
              have HSZ := Lib.hid hsz
              have HNN := Lib.hid hnn
              have HD := Lib.hid hh
              clear hcell hTo ho hof hnx hsz hnn hh
              cases hor : o.raw
              · rw [hor] at hrw
                simp only [Bool.false_eq_true, if_false] at hrw
                have HR := Lib.hid hor
                clear hor
                go_wp2_with (go_at_call 50; refine (ND _).mono ?_; rintro e w' ⟨rfl, rfl⟩)
                have HL := Lib.hid (loop4_start (n := nn) HS.out hi HF.out hlt)
                clear hrw d1 dh hb1 hb2
                go_loopg [77] nn (fun k s w2 => Loop4 A φ w p bp np (.slice co cells.length ccap) (.slice ao A.stack.length scap) lim cells (w.heap.size + 1) w.heap.size order T nn k s w2)
                case atStart => exact HL.out
                case round =>
                  clear HL
                  obtain ⟨order2, vt, to2, c, hck, rfl, hpre, hS2⟩ := hrel
                  have hi2 : i ∈ order2 := by obtain ⟨ext, rfl⟩ := hpre; exact List.mem_append_left _ hi
                  have HP := Lib.hid hpre
                  clear hpre
                  by_cases hc : c < nn
                  · have hfl : o.fields.length = nn := by
                      have h1 := HNN.out
                      have h2 := HR.out
                      unfold Ob.size at h1
                      rw [h2] at h1
                      simp only [Bool.false_eq_true, if_false] at h1
                      omega
                    obtain ⟨r, hr⟩ : ∃ r, o.fields[c]? = some r := ⟨_, List.getElem?_eq_getElem (by omega)⟩
                    have hf2 : offs A order2 i = T := by obtain ⟨ext, rfl⟩ := HP.out; rw [offs_append A order ext i hi, HF.out]
                    obtain ⟨hlt2, hx2⟩ := hS2.fieldAt hi2 HO.out HR.out hr hf2
                    have HF2 := Lib.hid hf2
                    clear hf2
                    obtain ⟨tg2, tcap2, rfl, d1, htN2, hcell2⟩ := hS2.vtForm (by omega)
                    have dx := (hcell2 _ _ hx2).1
                    have hl2 := hS2.len R.out
                    have OK : Hid (A.Ok r) := R.out.wf.ok_field (hS2.cop.inv.reach _ hi2) ⟨o, HO.out, HR.out, List.mem_of_getElem? hr⟩
                    have hb4 : 0 ≤ (T : Int) + 1 + (c : Int) := by omega
                    have hb5 : (T : Int) + 1 + (c : Int) < (to2.length : Int) := by omega
                    have e5 : ((T : Int) + 1 + (c : Int)).toNat = T + 1 + c := by omega
                    have HV : Hid (∀ k, (Value.slice co cells.length ccap).ownBlock = some k → k < w.heap.size) := fun k hk => H.out.rc.lt hk
                    have HS2 := Lib.hid hS2
                    have HRR := Lib.hid hr
                    have HFL := Lib.hid hfl
                    clear hcell2 hx2 hS2 hr hfl
                    go_wp2_with
                     ((go_at_call 54; refine (move_any R.out hlim HS2.out.cop HS2.out.heap.rc HV.out HS2.out.chg.size OK.out).mono ?_; rintro e w' ⟨ext2, vt2, to3, rfl, hC', hin', hlen', hcg, hwi⟩;
                         obtain ⟨tg3, tcap3, rfl, d3, htN3, hcell3⟩ := hC'.vtForm (by omega);
                         have hlt3 : T + 1 + c < to3.length := (by omega);
                         have dy := hcell3 _ _ (List.getElem?_eq_getElem hlt3);
                         have dy1 := dy.1; have dy2 := dy.2;
                         have hb6 : (T : Int) + 1 + (c : Int) < (to3.length : Int) := (by omega);
                         generalize to3[T + 1 + c] = yv at dy1; have HC' := Lib.hid hC'; have HI' := Lib.hid hin'; have HCG := Lib.hid hcg; clear hC' hin' hcg hwi hcell3 dy))
                    go_roundg (gk - 1)
                    case measure => omega
                    case rel =>
                      refine ⟨order2 ++ ext2, _, _, c + 1, by omega, by simp, ?_, HS2.out.turned (fun k hk => H.out.foot_lt hk) hi2 HO.out HR.out HRR.out HF2.out HC'.out rfl HCG.out HI'.out hlt3⟩
                      obtain ⟨ext, rfl⟩ := HP.out
                      exact ⟨ext ++ ext2, List.append_assoc _ _ _⟩
                  · obtain rfl : c = nn := by omega
                    have HS2 := Lib.hid hS2
                    clear hS2
                    go_wp2
                    go_roundg (cells.length - T - o.size)
                    case measure => have := HNN.out; omega
                    case rel =>
                      exact loop3_next HP.out HS2.out hql HNN.out HN.out (by have := HNN.out; omega)
              · rw [hor] at hrw
                simp only [if_true] at hrw
                have HR := Lib.hid hor
                clear hor
                go_wp2_with (go_at_call 50; refine (ND _).mono ?_; rintro e w' ⟨rfl, rfl⟩)
                go_roundg (gk - o.size)
                case measure => have := HNN.out; omega
                case rel =>
                  exact loop3_raw HS.out hi HO.out HR.out HF.out HSZ.out hTs hql HNN.out HN.out (by have := HNN.out; omega)
            · obtain rfl : T = to.length := by omega
              have hE := scan_end HS.out R.out (fun k hk => H.out.foot_lt hk)
              have HE := Lib.hid hE
              have d1 : ∃ n tcap vo, vt = .slice vo n tcap ∧ wr.cell? ⟨w.heap.size + 1, 1, none⟩ = some (.slice vo n tcap) ∧ n = to.length := by
                obtain ⟨nt, th, hI, _⟩ := HS.out.cop.lies
                obtain ⟨ao, cap, e, _⟩ := hI.rt.form
                exact ⟨_, cap, ao, e, e ▸ hI.c1, ints_length to⟩
              obtain ⟨n, tcap, vo, rfl, d1, rfl⟩ := d1
              have f1 := HS.out.heap.fr 1
              have c1 := HS.out.heap.c1
              clear hE
              go_wp2
              go_end0
              exact ⟨rfl, _, _, _, _, _, HE.out⟩
        · intro x c w1 cnt' hwx hwc hlx hfx hI1 hlt hg1 hs1 hen
          obtain ⟨r, hr, rfl⟩ : ∃ r, A.pins x = some r ∧ word φ r = c := by
            unfold pinsNow at hfx
            rw [if_pos hlx] at hfx
            cases hx : A.pins x with
            | none => rw [hx] at hfx; cases hfx
            | some r => rw [hx] at hfx; exact ⟨r, rfl, Option.some.inj hfx⟩
          have hc1 : Chg [rb] wr w1 := (Chg.refl _ _).grown hg1 (fun k hk => .inl (by cases hk; simp))
          have hrbI : Hid (rb < w1.heap.size) := hI1.lt
          have H1 : Hid (HeapIs w1 p bp np (.slice co cells.length ccap) (.slice ao A.stack.length scap) lim cells (A.stack.map (word (offs A order))) (pinsNow A φ order left)) := HH.out.chg hc1 (fun k hk => by
            have := H.out.foot_lt hk
            rw [List.mem_singleton]; omega)
          have C1 : Hid (Cop A φ w1 (w.heap.size + 1) w.heap.size w.heap.size (.slice co cells.length ccap) vt order 0 to) := HC.out.chg' hc1 (by simpa using hrb)
          have G1 : Hid (Chg (foot p bp (.slice co cells.length ccap) (.slice ao A.stack.length scap)) w w1) := (HG.out.belowTrans (hc1.below HG.out.size (by simpa using hrb2)))
          have d3 := H1.out.c3
          have HF : Hid (∀ k, (Value.slice co cells.length ccap).ownBlock = some k → k < w.heap.size) := fun k hk => H.out.rc.lt hk
          have HS : Hid (w.heap.size ≤ w1.heap.size) := G1.out.size
          have OK : Hid (A.Ok r) := R.out.wf.ok_root (.inr ⟨x, hr⟩)
          have hpw : Hid (p < w.heap.size) := lt_of_block H.out.hdr
          have hbw : Hid (bp < w.heap.size) := H.out.pm.lt
          have hpb : Hid (p ≠ bp) := H.out.ne1
          have HR := Lib.hid hr
          have HX := Lib.hid hlx
          have HI1 := Lib.hid hI1
          have HB := Lib.hid hrb
          clear hr hlx hI1 hc1 hg1 hs1 hfx hrb
          go_wp2
          go_region_held3 (fun w' => w'.cell? ⟨p, 3, none⟩ = some (.map (some bp))) (go_keep)
            ((go_at_call 54; refine (move_any R.out hlim (C1.out.chg ((Chg.refl [] _).drewN 1) (by simp)) ((H1.out.drewN 1).rc) HF.out HS.out OK.out).mono ?_; rintro e w' ⟨ext, vt', to', rfl, hC', hin', hlen', hcg, hwi⟩; have k3 := ((hcg.below HS.out (fun k hk => C1.out.foot hk)).cell (p := ⟨p, 3, none⟩) hpw.out).trans d3;
              obtain ⟨w3, hrun, hI3, hg3, hs3⟩ := IRange.store (t := 73) (((HI1.out.chg ((Chg.refl [] _).drewN 1) (by simp) (by simp)).chg hcg (fun hm => by have := C1.out.foot hm; have := hbw.out; omega) HB.out)) Try.underlying3 Try.underlying73 Try.underlying22 (by unfold maxLen; omega) hwx (word_wf OK.out (ψ := offs A (order ++ ext)) (fun ho => by have h1 := offs_le A _ _ (hin' ho); have h2 := R.out.total_le _ hC'.inv.nodup hC'.inv.reach; have h3 := R.out.room; omega)) (by unfold pinsNow; rw [if_pos HX.out, HR.out]; rfl);
              have k4 : w3.cell? ⟨p, 3, none⟩ = some (.map (some bp)) := (hg3.cell_far ⟨p, 3, none⟩ (Nat.lt_of_lt_of_le (Nat.lt_of_lt_of_le hpw.out HS.out) hcg.size) (by simpa using hpb.out)).trans k3;
              have HC' := Lib.hid hC'; have HI' := Lib.hid hin'; have Hcg := Lib.hid hcg; have Hwi := Lib.hid hwi; have HI3 := Lib.hid hI3; have Hg3 := Lib.hid hg3; clear hC' hin' hcg hwi hI3 hg3 hs3))
          go_wp2
          go_roundg cnt'
          case measure => omega
          case rel =>
            exact loop2_next (w1 := w1.drew) (fun k hk => H.out.foot_lt hk) (Nat.le_refl _) HR.out HX.out (H1.out.drewN 1) HC'.out HS.out (fun k hk => C1.out.foot hk) HB.out hrb2 hrbI.out Hcg.out Hwi.out HI3.out Hg3.out hsl.out hdn.out hlf.out HI'.out (G1.out.drewN 1)
end
end Go.Proofs.Ytlbiapgikkjooaa
