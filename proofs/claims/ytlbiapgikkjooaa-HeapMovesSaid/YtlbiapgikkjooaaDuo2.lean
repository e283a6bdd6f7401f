/- The program's heap and the reference's in one memory: the reference's calls. -/
import Derived.Test.YtlbiapgikkjooaaDuo
namespace Go.Proofs.Ytlbiapgikkjooaa
open Go.RowKit Go.Maps Hp
set_option linter.unusedSimpArgs false
set_option linter.unusedSectionVars false
set_option linter.unusedVariables false

theorem pinOf_filter (P : List (Int × Ref)) (key k : Int) : pinOf (P.filter fun x => x.1 != key) k = if k = key then none else pinOf P k := by
  unfold pinOf
  rw [List.find?_filter]
  by_cases h : k = key
  · subst h
    rw [if_pos rfl, List.find?_eq_none.2, Option.map_none]
    intro x _
    simp
  · rw [if_neg h]
    congr 2
    funext x
    by_cases e : x.1 = k
    · subst e; simp [h]
    · simp [e]
theorem pinOf_add (P : List (Int × Ref)) (key : Int) (r : Ref) (k : Int) : pinOf ((P.filter fun x => x.1 != key) ++ [(key, r)]) k = if k = key then some r else pinOf P k := by
  have h1 := pinOf_filter P key k
  unfold pinOf at *
  rw [List.find?_append]
  by_cases h : k = key
  · subst h
    rw [if_pos rfl] at h1 ⊢
    rw [Option.map_eq_none_iff.1 h1]
    simp
  · rw [if_neg h] at h1 ⊢
    rw [← h1]
    have : (List.find? (fun x : Int × Ref => x.1 == k) [(key, r)]) = none := by simp [show ¬ key = k from fun e => h e.symm]
    rw [this, Option.or_none]
theorem map_fst_set (L : List (Ob × Value)) (j : Nat) (o : Ob × Value) (g : Ob → Ob) (v : Value) (ho : L[j]? = some o) : (L.map (·.1)).modify j g = (L.set j (g o.1, v)).map (·.1) := by
  apply List.ext_getElem?
  intro i
  rw [List.getElem?_modify, List.getElem?_map, List.getElem?_map, List.getElem?_set]
  by_cases e : j = i
  · subst e
    have hl := (List.getElem?_eq_some_iff.1 ho).1
    rw [ho]
    simp [hl]
  · simp [e]
section
variable {N : Bd} {m c : Nat} {w0 w w' : World} {p q : Nat} {A B : AH} {st : List Int} {φ : Nat → Nat} {F1 F2 : List Nat} {L : List (Ob × Value)} {P : List (Int × Ref)}
theorem DuoIs.ref {B' : AH} {L' : List (Ob × Value)} {P' : List (Int × Ref)} {F' : List Nat} {c' : Nat} (h : DuoIs N w0 p q A st φ m c B w F1 F2 L P) (r' : RefAt w' q F' B'.limit L' B'.stack P') (s' : Small c' B' L' P') (hc : Chg F2 w w') (hw : Within F2 F' w.heap.size) : Duo N w0 p q A st φ m c' B' w' :=
  ⟨F1, F', L', P', h.h.chg hc (fun k hk => (h.d1 k hk).2), r', s', fun k hk => ⟨(h.d1 k hk).1, fun hm => by
    rcases hw k hm with e | e
    · exact (h.d1 k hk).2 e
    · have := h.h.lt hk; omega⟩, fun k hk => by
    rcases hw k hk with e | e
    · exact h.d2 k e
    · have := h.n; omega, h.b.trans (hc.below h.n h.d2), Nat.le_trans h.n hc.size, fun b o ho => by
    obtain ⟨g1, g2, g3⟩ := h.x b o ho
    refine ⟨(hc.block b (lt_of_block g1) g3).trans g1, g2, fun hm => ?_⟩
    rcases hw b hm with e | e
    · exact g3 e
    · have := lt_of_block g1; omega⟩
theorem duo_rtop (h : Duo N w0 p q A st φ m c B w) (hc : c ≤ 1000000) (i : Int) : Calls Try.prog 35 #[.pointer (some ⟨q, 0, none⟩), .int .i64 i] w fun e w' => e = .returned (rv (B.topI i)) ∧ Below w.heap.size w w' := by
  obtain ⟨F1, F2, L, P, h⟩ := h
  obtain ⟨vl, vs, vp, hr, rfl⟩ := h.r
  by_cases hi : i < 0 ∨ (B.stack.length : Int) ≤ i
  · have e : B.topI i = imm 0 := by
      unfold AH.topI AH.top
      split
      · rw [if_neg (by omega)]
      · rfl
    rw [e]
    exact refTop_out hr i hi
  · obtain ⟨k, rfl⟩ : ∃ k : Nat, i = k := ⟨i.toNat, by omega⟩
    have hk : k < B.stack.length := by omega
    have e : B.topI (k : Int) = B.stack[B.stack.length - 1 - k] := by
      unfold AH.topI AH.top
      rw [if_pos (by omega), Int.toNat_natCast, if_pos hk, List.getD_eq_getElem?_getD, List.getElem?_eq_getElem (by omega)]
      rfl
    rw [e]
    exact refTop_in hr (B.stack.length - 1 - k) k _ (by omega) (List.getElem?_eq_getElem (by omega)) (by have := h.s.bS; omega)
theorem duo_ob (h : DuoIs N w0 p q A st φ m c B w F1 F2 L P) {j : Nat} (hj : j < B.objs.length) : ∃ o, L[j]? = some o ∧ B.objs[j]? = some o.1 := by
  have hl : j < L.length := by rw [h.s.objs, List.length_map] at hj; exact hj
  exact ⟨L[j], List.getElem?_eq_getElem hl, by rw [h.s.objs, List.getElem?_map, List.getElem?_eq_getElem hl]; rfl⟩
theorem duo_rfield (h : Duo N w0 p q A st φ m c B w) (hc : c ≤ 1000000) {r : Ref} (hr : r.obj = true → ∃ j : Nat, r.n = j ∧ j < B.objs.length) (i : Int) : Calls Try.prog 36 #[.pointer (some ⟨q, 0, none⟩), rv r, .int .i64 i] w fun e w' => e = .returned (rv (B.fieldI r i)) ∧ Below w.heap.size w w' := by
  obtain ⟨F1, F2, L, P, h⟩ := h
  obtain ⟨vl, vs, vp, hrf, rfl⟩ := h.r
  by_cases hi : r.obj = false ∨ i < 0
  · have e : B.fieldI r i = imm 0 := by
      unfold AH.fieldI AH.field AH.fields
      rcases hi with hi | hi
      · rw [hi]; simp
      · rw [if_neg (by omega)]
    rw [e]
    exact refField_out hrf r i hi
  · rw [not_or] at hi
    obtain ⟨b, n⟩ := r
    have hb : b = true := by cases b; exact absurd rfl hi.1; rfl
    subst hb
    obtain ⟨j, rfl, hj⟩ : ∃ j : Nat, n = j ∧ j < B.objs.length := hr rfl
    obtain ⟨k, rfl⟩ : ∃ k : Nat, i = k := ⟨i.toNat, by omega⟩
    obtain ⟨o, ho, hbo⟩ := duo_ob h hj
    have e : B.fieldI ⟨true, (j : Int)⟩ (k : Int) = o.1.fields.getD k (imm 0) := by
      unfold AH.fieldI AH.field AH.fields
      rw [if_pos (by omega), if_pos rfl]
      show ((B.objs[(j : Int).toNat]?.map Ob.fields).getD []).getD (k : Int).toNat (imm 0) = _
      rw [Int.toNat_natCast, Int.toNat_natCast, hbo]
      rfl
    rw [e]
    have := h.s.bL
    have := (h.s.bO o (List.mem_of_getElem? ho)).1
    exact refField_in hrf j k o ho (by omega) (by omega)
theorem duo_rpinned (h : Duo N w0 p q A st φ m c B w) (hc : c ≤ 1000000) (key : Int) : Calls Try.prog 40 #[.pointer (some ⟨q, 0, none⟩), .int .i64 key] w fun e w' => e = .returned (.tuple #[rv ((B.pins key).getD (imm 0)), .bool (B.pins key).isSome]) ∧ Below w.heap.size w w' := by
  obtain ⟨F1, F2, L, P, h⟩ := h
  obtain ⟨vl, vs, vp, hrf, rfl⟩ := h.r
  have := refPinned_any hrf key (by have := h.s.bP; omega)
  unfold pinRes at this
  rw [← h.s.pins] at this
  exact this
theorem duo_rlive (h : Duo N w0 p q A st φ m c B w) (hc : c ≤ 1000000) (hwf : B.Wf) : Calls Try.prog 42 #[.pointer (some ⟨q, 0, none⟩)] w fun e w' => e = .returned (.int .i64 (B.live : Int)) ∧ Below w.heap.size w w' := by
  obtain ⟨F1, F2, L, P, h⟩ := h
  obtain ⟨vl, vs, vp, hrf, rfl⟩ := h.r
  exact refLive_tied hrf (h.s.tied hc hwf)
theorem within_p {vl vs vp vp' : Value} {n : Nat} (h : ∀ k, vp'.ownBlock = some k → n ≤ k) : Within (rfoot q vl vs vp L) (rfoot q vl vs vp' L) n := rfoot_sub h
theorem duo_runpin (h : Duo N w0 p q A st φ m c B w) (hc : c ≤ 1000000) (key : Int) : Calls Try.prog 41 #[.pointer (some ⟨q, 0, none⟩), .int .i64 key] w (DuoTo N w0 p q A st φ m c (B.unpin key) (.tuple #[])) := by
  obtain ⟨F1, F2, L, P, h⟩ := h
  obtain ⟨vl, vs, vp, hrf, rfl⟩ := h.r
  refine (refUnpin_any hrf key (by have := h.s.bP; omega)).mono ?_
  rintro e w' ⟨he, vp', h1, h2, h3⟩
  refine ⟨he, h.ref (B' := B.unpin key) ⟨vl, vs, vp', h1, rfl⟩ ⟨h.s.objs, fun k => ?_, ?_, h.s.bL, h.s.bS, Nat.le_trans (List.length_filter_le _ _) h.s.bP, h.s.bO⟩ (h2.mono (fun k hk => by simp at hk; subst hk; exact mem_rfoot.2 (.inl rfl))) (within_p h3)⟩
  · rw [pinOf_filter]
    show (if k = key then none else B.pins k) = _
    rw [h.s.pins]
  · exact List.Nodup.sublist (List.Sublist.map _ List.filter_sublist) h.s.nd
theorem duo_rpin (h : Duo N w0 p q A st φ m c B w) (hc : c ≤ 1000000) (key : Int) (r : Ref) : Calls Try.prog 39 #[.pointer (some ⟨q, 0, none⟩), .int .i64 key, rv r] w (DuoTo N w0 p q A st φ m (c + 1) (B.pin key r) (.tuple #[])) := by
  obtain ⟨F1, F2, L, P, h⟩ := h
  obtain ⟨vl, vs, vp, hrf, rfl⟩ := h.r
  refine (refPin_any hrf key r (by have := h.s.bP; omega)).mono ?_
  rintro e w' ⟨he, vp', h1, h2, h3⟩
  have s1 := h.s.mono (Nat.le_succ c)
  refine ⟨he, h.ref (B' := B.pin key r) ⟨vl, vs, vp', h1, rfl⟩ ⟨h.s.objs, fun k => ?_, ?_, s1.bL, s1.bS, ?_, s1.bO⟩ h2 (within_p h3)⟩
  · rw [pinOf_add]
    show (if k = key then some r else B.pins k) = _
    rw [h.s.pins]
  · rw [List.map_append, List.nodup_append]
    refine ⟨List.Nodup.sublist (List.Sublist.map _ List.filter_sublist) h.s.nd, by simp, fun a ha b hb => ?_⟩
    obtain ⟨x, hx, rfl⟩ := List.mem_map.1 ha
    have := (List.mem_filter.1 hx).2
    simp at hb this
    subst hb
    exact this
  · rw [List.length_append, List.length_singleton]
    have := Nat.le_trans (List.length_filter_le (fun x : Int × Ref => x.1 != key) P) h.s.bP
    omega
theorem within_new {vl vs vp vl' vs' : Value} {x : Ob × Value} {n : Nat} (h1 : ∀ k, vl'.ownBlock = some k → vl.ownBlock = some k ∨ n ≤ k) (h2 : ∀ k, vs'.ownBlock = some k → n ≤ k) (h3 : ∀ k, x.2.ownBlock = some k → n ≤ k) : Within (rfoot q vl vs vp L) (rfoot q vl' vs' vp (L ++ [x])) n := fun k hk => by
  rcases mem_rfoot.1 hk with e | e | e | e | ⟨y, hy, e⟩
  · exact .inl (mem_rfoot.2 (.inl e))
  · exact (h1 k e).imp (fun e => mem_rfoot.2 (.inr (.inl e))) id
  · exact .inr (h2 k e)
  · exact .inl (mem_rfoot.2 (.inr (.inr (.inr (.inl e)))))
  · rcases List.mem_append.1 hy with hy | hy
    · exact .inl (mem_rfoot.2 (.inr (.inr (.inr (.inr ⟨y, hy, e⟩)))))
    · rw [List.mem_singleton] at hy
      subst hy
      exact .inr (h3 k e)
theorem duo_new {o : Ob} {n : Nat} {vl vs vp : Value} {e : Ending} (h : DuoIs N w0 p q A st φ m c B w F1 F2 L P) (hF : rfoot q vl vs vp L = F2) (hn : n ≤ B.stack.length) (hf : o.fields.length ≤ c) (hb : o.bytes.length ≤ 200) (hp : NewPost B w q B.limit vl vs vp L P o n e w') :
    DuoTo N w0 p q A st φ m (c + 1) (if B.live + o.size ≤ B.limit then B.add o n else B) (.int .i64 (if B.live + o.size ≤ B.limit then 0 else 14)) e w' := by
  unfold NewPost at hp
  have s1 := h.s.mono (Nat.le_succ c)
  by_cases hr : B.live + o.size ≤ B.limit
  · rw [if_pos hr] at hp ⊢
    rw [if_pos hr]
    obtain ⟨v, hv, he, vl', vs', h1, h2, h3, h4⟩ := hp
    subst hF
    have hlen : B.objs.length = L.length := by rw [h.s.objs, List.length_map]
    refine ⟨he, h.ref (B' := B.add o n) (L' := L ++ [(o, v)]) ⟨vl', vs', vp, ?_, rfl⟩ ⟨?_, h.s.pins, h.s.nd, ?_, ?_, s1.bP, ?_⟩ h2 (within_new h3 h4 hv)⟩
    · show RefIs w' q B.limit vl' vs' vp (L ++ [(o, v)]) (B.stack.take (B.stack.length - n) ++ [⟨true, B.objs.length⟩]) P
      rw [hlen]
      exact h1
    · show B.objs ++ [o] = _
      rw [List.map_append, ← h.s.objs]
      rfl
    · rw [List.length_append, List.length_singleton]
      have := h.s.bL
      omega
    · show (B.stack.take (B.stack.length - n) ++ [_]).length ≤ _
      rw [List.length_append, List.length_singleton, List.length_take]
      have := h.s.bS
      omega
    · intro y hy
      rcases List.mem_append.1 hy with hy | hy
      · exact s1.bO y hy
      · rw [List.mem_singleton] at hy
        subst hy
        exact ⟨by show o.fields.length ≤ _; omega, hb⟩
  · rw [if_neg hr] at hp ⊢
    rw [if_neg hr]
    refine ⟨hp.1, ?_⟩
    have := (Duo.later ⟨F1, F2, L, P, h⟩ hp.2)
    exact this.mono (Nat.le_refl _) (Nat.le_succ _)
theorem duo_rmake (h : Duo N w0 p q A st φ m c B w) (hc : c ≤ 1000000) (hwf : B.Wf) (hlim : B.limit ≤ 4194304) (kind n : Nat) (hk : kind ≤ 1000) (hn : n ≤ B.stack.length) :
    Calls Try.prog 33 #[.pointer (some ⟨q, 0, none⟩), .int .i64 kind, .int .i64 n] w (DuoTo N w0 p q A st φ m (c + 1) (if B.live + (1 + n) ≤ B.limit then B.make kind n else B) (.int .i64 (if B.live + (1 + n) ≤ B.limit then 0 else 14))) := by
  obtain ⟨F1, F2, L, P, h⟩ := h
  obtain ⟨vl, vs, vp, hrf, hF⟩ := h.r
  have hsz : (⟨kind, false, B.stack.drop (B.stack.length - n), []⟩ : Ob).size = 1 + n := by simp [Ob.size]; omega
  refine (refMake_any hrf (h.s.tied hc hwf) kind n hk hn hlim).mono fun e w' he => ?_
  have := duo_new h hF hn (o := ⟨kind, false, B.stack.drop (B.stack.length - n), []⟩) (by show (B.stack.drop _).length ≤ c; rw [List.length_drop]; have := h.s.bS; omega) (by simp) he
  rw [hsz] at this
  exact this
theorem duo_rraw (h : Duo N w0 p q A st φ m c B w) (hc : c ≤ 1000000) (hwf : B.Wf) (hlim : B.limit ≤ 4194304) (kind : Nat) (s : ByteArray) (hk : kind ≤ 1000) (hs : s.size ≤ 200) :
    Calls Try.prog 34 #[.pointer (some ⟨q, 0, none⟩), .int .i64 kind, .string s] w (DuoTo N w0 p q A st φ m (c + 1) (if B.live + (rawOb kind s.data.toList).size ≤ B.limit then B.raw kind s.data.toList else B) (.int .i64 (if B.live + (rawOb kind s.data.toList).size ≤ B.limit then 0 else 14))) := by
  obtain ⟨F1, F2, L, P, h⟩ := h
  obtain ⟨vl, vs, vp, hrf, hF⟩ := h.r
  refine (refRaw_any hrf (h.s.tied hc hwf) kind s hk (by omega) hlim).mono fun e w' he => ?_
  exact duo_new h hF (Nat.zero_le _) (o := rawOb kind s.data.toList) (by simp [rawOb]) (by simpa [rawOb] using hs) he
theorem duo_rmake_bad (h : Duo N w0 p q A st φ m c B w) (hc : c ≤ 1000000) (hwf : B.Wf) (kind n : Int) (hbad : kind < 0 ∨ 1000 < kind ∨ n < 0 ∨ (B.stack.length : Int) < n) :
    Calls Try.prog 33 #[.pointer (some ⟨q, 0, none⟩), .int .i64 kind, .int .i64 n] w fun e w' => e = .returned (.int .i64 1) ∧ Below w.heap.size w w' := by
  obtain ⟨F1, F2, L, P, h⟩ := h
  obtain ⟨vl, vs, vp, hrf, hF⟩ := h.r
  exact refMake_bad hrf (h.s.tied hc hwf) kind n hbad
theorem duo_rset (h : Duo N w0 p q A st φ m c B w) (hc : c ≤ 1000000) {r x : Ref} (hr : r.obj = true → ∃ j : Nat, r.n = j ∧ j < B.objs.length) (i : Int) : Calls Try.prog 37 #[.pointer (some ⟨q, 0, none⟩), rv r, .int .i64 i, rv x] w (DuoTo N w0 p q A st φ m c (B.setI r i x) (.tuple #[])) := by
  have h0 := h
  obtain ⟨F1, F2, L, P, h⟩ := h
  obtain ⟨vl, vs, vp, hrf, rfl⟩ := h.r
  by_cases hi : r.obj = false ∨ i < 0
  · have e : B.setI r i x = B := by
      unfold AH.setI
      rw [if_neg]
      rintro ⟨h1, h2, _⟩
      rcases hi with hi | hi
      · rw [hi] at h1; cases h1
      · omega
    rw [e]
    exact (refSet_out hrf r x i hi).mono fun e w' he => ⟨he.1, h0.later he.2⟩
  · rw [not_or] at hi
    obtain ⟨b, n⟩ := r
    have hb : b = true := by cases b; exact absurd rfl hi.1; rfl
    subst hb
    obtain ⟨j, rfl, hj⟩ : ∃ j : Nat, n = j ∧ j < B.objs.length := hr rfl
    obtain ⟨k, rfl⟩ : ∃ k : Nat, i = k := ⟨i.toNat, by omega⟩
    obtain ⟨o, ho, hbo⟩ := duo_ob h hj
    have hsz : B.sizeOf ⟨true, (j : Int)⟩ = o.1.fields.length := by
      unfold AH.sizeOf AH.fields
      rw [if_pos rfl]
      show ((B.objs[(j : Int).toNat]?.map Ob.fields).getD []).length = _
      rw [Int.toNat_natCast, hbo]
      rfl
    have b1 := h.s.bL
    have b2 := (h.s.bO o (List.mem_of_getElem? ho)).1
    by_cases hk : o.1.fields.length ≤ k
    · have e : B.setI ⟨true, (j : Int)⟩ (k : Int) x = B := by
        unfold AH.setI
        rw [if_neg]
        rintro ⟨_, _, h3⟩
        rw [hsz] at h3
        omega
      rw [e]
      exact (refSet_over hrf j k x o ho (by omega) (by omega) hk).mono fun e w' he => ⟨he.1, h0.later he.2⟩
    · have e : B.setI ⟨true, (j : Int)⟩ (k : Int) x = B.setField j k x := by
        unfold AH.setI
        rw [if_pos ⟨rfl, by omega, by rw [hsz]; omega⟩]
        show B.setField (j : Int).toNat (k : Int).toNat x = _
        rw [Int.toNat_natCast, Int.toNat_natCast]
      rw [e]
      refine (refSet_in hrf j k x o ho (by omega) (by omega) (by omega)).mono ?_
      rintro e w' ⟨he, v, h1, h2, h3⟩
      refine ⟨he, h.ref (B' := B.setField j k x) (L' := L.set j ({ o.1 with fields := o.1.fields.set k x }, v)) ⟨vl, vs, vp, h1, rfl⟩ ⟨?_, h.s.pins, h.s.nd, by rw [List.length_set]; exact b1, h.s.bS, h.s.bP, fun y hy => ?_⟩ h2 (fun k' hk' => ?_)⟩
      · show B.objs.modify j _ = _
        rw [h.s.objs]
        exact map_fst_set L j o (fun o => { o with fields := o.fields.set k x }) v ho
      · rcases List.mem_or_eq_of_mem_set hy with hy | rfl
        · exact h.s.bO y hy
        · exact ⟨by show (o.1.fields.set k x).length ≤ c; rw [List.length_set]; exact b2, (h.s.bO o (List.mem_of_getElem? ho)).2⟩
      · rcases mem_rfoot.1 hk' with e | e | e | e | ⟨y, hy, e⟩
        · exact .inl (mem_rfoot.2 (.inl e))
        · exact .inl (mem_rfoot.2 (.inr (.inl e)))
        · exact .inl (mem_rfoot.2 (.inr (.inr (.inl e))))
        · exact .inl (mem_rfoot.2 (.inr (.inr (.inr (.inl e)))))
        · rcases List.mem_or_eq_of_mem_set hy with hy | rfl
          · exact .inl (mem_rfoot.2 (.inr (.inr (.inr (.inr ⟨y, hy, e⟩)))))
          · exact .inr (h3 k' e)
end
end Go.Proofs.Ytlbiapgikkjooaa
