/- Texts of the proof, in build order: StMap, StKey. -/
import Derived.Test.YtcpgbekcbaelpaaGreatDoorF25
import Derived.Test.YtcpgbekcbaelpaaGreatDoorF14
import Derived.Maps.OwnSet
import Derived.Lib.SlKeysI
import Derived.Test.YtcpgbekcbaelpaaGreatDoorF18
import Derived.Test.YtcpgbekcbaelpaaGreatDoorF23
set_option linter.unusedVariables false
set_option linter.unusedSimpArgs false
set_option linter.unusedSectionVars false
/- Maps from numbers to slices of bytes, as sorted lists of objects. -/
namespace Go.Proofs.YtcpgbekcbaelpaaGreatDoor
open Go.RowKit Go.Maps Wr
set_option linter.unusedVariables false
set_option linter.unusedSimpArgs false
abbrev OV := List (Int × Value × List UInt8)
def ovV (l : OV) (k : Int) : Option Value := (l.find? fun x => x.1 == k).map (·.2.1)
def ovO (l : OV) : St.Objs := l.map fun x => (x.1, x.2.2)
def ovDel (id : Int) (l : OV) : OV := l.filter fun x => x.1 ≠ id
def ovIns (id : Int) (v : Value) (b : List UInt8) : OV → OV
  | [] => [(id, v, b)]
  | x :: l => if id < x.1 then (id, v, b) :: x :: l else x :: ovIns id v b l
def ovPut (id : Int) (v : Value) (b : List UInt8) (l : OV) : OV := ovIns id v b (ovDel id l)
theorem ovO_len (l : OV) : (ovO l).length = l.length := List.length_map ..
theorem ovO_del (id : Int) (l : OV) : ovO (ovDel id l) = St.oDel id (ovO l) := by
  unfold ovO ovDel St.oDel
  rw [List.filter_map]
  rfl
theorem ovO_ins (id : Int) (v : Value) (b : List UInt8) : ∀ l : OV, ovO (ovIns id v b l) = St.oIns id b (ovO l)
  | [] => rfl
  | x :: l => by
    show ovO (if id < x.1 then (id, v, b) :: x :: l else x :: ovIns id v b l) = if id < x.1 then (id, b) :: ovO (x :: l) else (x.1, x.2.2) :: St.oIns id b (ovO l)
    by_cases h : id < x.1
    · rw [if_pos h, if_pos h]; rfl
    · rw [if_neg h, if_neg h, ← ovO_ins id v b l]; rfl
theorem ovO_put (id : Int) (v : Value) (b : List UInt8) (l : OV) : ovO (ovPut id v b l) = St.oPut id b (ovO l) := by
  unfold ovPut St.oPut
  rw [ovO_ins, ovO_del]
theorem mem_ovDel {id : Int} {l : OV} {x : Int × Value × List UInt8} : x ∈ ovDel id l ↔ x ∈ l ∧ x.1 ≠ id := by
  unfold ovDel
  rw [List.mem_filter]
  simp
theorem mem_ovIns {id : Int} {v : Value} {b : List UInt8} {x : Int × Value × List UInt8} : ∀ {l : OV}, x ∈ ovIns id v b l ↔ x = (id, v, b) ∨ x ∈ l
  | [] => by simp [ovIns]
  | y :: l => by
    unfold ovIns
    split
    · simp
    · rw [List.mem_cons, mem_ovIns (l := l), List.mem_cons]
      constructor
      · rintro (h | h | h)
        · exact .inr (.inl h)
        · exact .inl h
        · exact .inr (.inr h)
      · rintro (h | h | h)
        · exact .inr (.inl h)
        · exact .inl h
        · exact .inr (.inr h)
def OvS (l : OV) : Prop := l.Pairwise fun x y => x.1 < y.1
theorem OvS.del {l : OV} (h : OvS l) (id : Int) : OvS (ovDel id l) := List.Pairwise.filter _ h
theorem OvS.ins {id : Int} {v : Value} {b : List UInt8} : ∀ {l : OV}, OvS l → (∀ x ∈ l, x.1 ≠ id) → OvS (ovIns id v b l)
  | [], _, _ => List.pairwise_singleton _ _
  | x :: l, h, hn => by
    obtain ⟨h1, h2⟩ := List.pairwise_cons.1 h
    unfold ovIns
    split
    · rename_i hx
      refine List.pairwise_cons.2 ⟨fun y hy => ?_, h⟩
      rcases List.mem_cons.1 hy with rfl | hy
      · exact hx
      · exact Int.lt_trans hx (h1 y hy)
    · rename_i hx
      refine List.pairwise_cons.2 ⟨fun y hy => ?_, OvS.ins (l := l) h2 (fun y hy => hn y (List.mem_cons_of_mem _ hy))⟩
      rcases mem_ovIns.1 hy with rfl | hy
      · have := hn x (List.mem_cons_self ..)
        show x.1 < id
        omega
      · exact h1 y hy
theorem OvS.put {id : Int} {v : Value} {b : List UInt8} {l : OV} (h : OvS l) : OvS (ovPut id v b l) := (h.del id).ins (fun x hx => (mem_ovDel.1 hx).2)
theorem ovV_mem {l : OV} (h : OvS l) {k : Int} {v : Value} {b : List UInt8} (hm : (k, v, b) ∈ l) : ovV l k = some v := by
  unfold ovV
  have : l.find? (fun x => x.1 == k) = some (k, v, b) := by
    induction l with
    | nil => cases hm
    | cons x l ih =>
      obtain ⟨h1, h2⟩ := List.pairwise_cons.1 h
      rcases List.mem_cons.1 hm with rfl | hm
      · simp
      · have := h1 _ hm
        rw [List.find?_cons, show (x.1 == k) = false by simp; intro e; simp only at this; omega]
        exact ih h2 hm
  rw [this]; rfl
theorem ovV_none {l : OV} {k : Int} (h : ∀ x ∈ l, x.1 ≠ k) : ovV l k = none := by
  unfold ovV
  rw [List.find?_eq_none.2 (fun x hx => by simpa using h x hx)]; rfl
theorem ovV_some {l : OV} {k : Int} {v : Value} (h : ovV l k = some v) : ∃ b, (k, v, b) ∈ l := by
  unfold ovV at h
  cases hf : l.find? (fun x => x.1 == k) with
  | none => rw [hf] at h; cases h
  | some x =>
    rw [hf] at h
    have h1 := List.mem_of_find?_eq_some hf
    have h2 := List.find?_some hf
    obtain ⟨a, c, d⟩ := x
    simp at h h2
    subst h h2
    exact ⟨_, h1⟩
theorem ovV_del {l : OV} (id k : Int) : ovV (ovDel id l) k = if k = id then none else ovV l k := by
  by_cases e : k = id
  · subst e
    rw [if_pos rfl]
    exact ovV_none (fun x hx => (mem_ovDel.1 hx).2)
  · rw [if_neg e]
    unfold ovV ovDel
    rw [List.find?_filter]
    congr 1
    refine congrArg (fun f => l.find? f) (funext fun x => ?_)
    by_cases hx : x.1 = k
    · simp [hx, e]
    · simp [hx]
theorem ovV_put {l : OV} (h : OvS l) (id : Int) (v : Value) (b : List UInt8) (k : Int) : ovV (ovPut id v b l) k = if k = id then some v else ovV l k := by
  by_cases e : k = id
  · subst e
    rw [if_pos rfl]
    exact ovV_mem (h.put) (mem_ovIns.2 (.inl rfl))
  · rw [if_neg e]
    cases hv : ovV l k with
    | none =>
      refine ovV_none (fun x hx => ?_)
      rcases mem_ovIns.1 hx with rfl | hx
      · exact fun e2 => e e2.symm
      · intro e2
        obtain ⟨a, c, d⟩ := x
        simp only at e2
        subst e2
        rw [ovV_mem h (mem_ovDel.1 hx).1] at hv
        cases hv
    | some u =>
      obtain ⟨c, hc⟩ := ovV_some hv
      exact ovV_mem h.put (mem_ovIns.2 (.inr (mem_ovDel.2 ⟨hc, e⟩)))
theorem ovIns_len (id : Int) (v : Value) (b : List UInt8) : ∀ l : OV, (ovIns id v b l).length = l.length + 1
  | [] => rfl
  | x :: l => by
    unfold ovIns
    split
    · simp
    · rw [List.length_cons, ovIns_len id v b l, List.length_cons]
theorem ovDel_len {l : OV} (h : OvS l) (id : Int) : (ovDel id l).length + (if (ovV l id).isSome then 1 else 0) = l.length := by
  induction l with
  | nil => rfl
  | cons x l ih =>
    obtain ⟨h1, h2⟩ := List.pairwise_cons.1 h
    have ih := ih h2
    by_cases e : x.1 = id
    · have e1 : ovV (x :: l) id = some x.2.1 := by unfold ovV; rw [List.find?_cons, show (x.1 == id) = true by simpa using e]; rfl
      have e2 : ovV l id = none := ovV_none (fun y hy => by have := h1 y hy; omega)
      have e3 : ovDel id (x :: l) = ovDel id l := by unfold ovDel; rw [List.filter_cons_of_neg (by simp [e])]
      rw [e2] at ih
      rw [e1, e3]
      simp at ih ⊢
      exact ih
    · have e1 : ovV (x :: l) id = ovV l id := by unfold ovV; rw [List.find?_cons, show (x.1 == id) = false by simpa using e]
      have e3 : ovDel id (x :: l) = x :: ovDel id l := by unfold ovDel; rw [List.filter_cons_of_pos (by simp [e])]
      rw [e1, e3, List.length_cons, List.length_cons, ← ih]
      omega
def OMap (w : World) (b : Nat) (l : OV) : Prop :=
  OvS l ∧ ∃ D, w.ownsMap (H := Value) Tryz.prog 3 heldElem b l.length D ∧ Maps.size D = l.length ∧ ∀ k, vmapAt D k = ovV l k
theorem intU : Tryz.prog.underlying 3 = some (.int .i64) := Tryz.underlying3
theorem mapU : Tryz.prog.underlying 98 = some (.map 3 44) := Tryz.underlying98
theorem omap_fit {w : World} {b n m : Nat} {D : DataW Value} (h : w.ownsMap (H := Value) Tryz.prog 3 heldElem b n D) (hm : Maps.size D = m) : w.ownsMap (H := Value) Tryz.prog 3 heldElem b m D := by
  obtain ⟨es, clock, hb, F, hs, hD⟩ := h
  have e1 : Maps.size D = es.size := by rw [hD]; simp [Maps.size, length_sorted]
  exact ⟨es, clock, hb, F, by omega, hD⟩
theorem OMap.lt {w : World} {b : Nat} {l : OV} (h : OMap w b l) : b < w.heap.size := by obtain ⟨_, D, h, _⟩ := h; exact h.lt
theorem OMap.turn {w w' : World} {M : Nat → Prop} {b : Nat} {l : OV} (h : OMap w b l) (ht : Turn M w w') (hb : ¬ M b) : OMap w' b l := by
  obtain ⟨hs, D, h, hz, hf⟩ := h
  obtain ⟨es, clock, hb', rest⟩ := h
  exact ⟨hs, D, ⟨es, clock, (ht.block b (Array.getElem?_eq_some_iff.1 hb').1 hb).trans hb', rest⟩, hz, hf⟩
theorem OMap.below {w w' : World} {b : Nat} {l : OV} (h : OMap w b l) (hb : Below w.heap.size w w') : OMap w' b l := h.turn (M := fun _ => False) (Turn.of_below hb) (fun h => h)
theorem OMap.made (w : World) : OMap (w.alloc (.map #[] 0)) w.heap.size [] :=
  ⟨List.Pairwise.nil, .map [], World.ownsMap_made w Tryz.prog 3 _, rfl, fun k => by simp [vmapAt, Maps.has, ovV]⟩
theorem OMap.len {w : World} {b : Nat} {l : OV} (h : OMap w b l) (ty : TypeId) : (Builtin.len_ #[98] ty #[.map (some b)]).run Tryz.prog w = .ok (.int .i64 (l.length : Int)) w := by
  obtain ⟨_, D, hown, hz, _⟩ := h
  rw [hown.len mapU ty, hz]
theorem zeroB (w : World) : (zeroValue 44).run Tryz.prog w = .ok (.slice none 0 0) w := by kernel_rfl
theorem OMap.look {w : World} {b : Nat} {l : OV} (h : OMap w b l) {key : Int} (hkw : (Lit.int .i64 key).wf = true) :
    (Instr.lookup 98 (.map (some b)) (.int .i64 key) true).run Tryz.prog w = .ok (.tuple #[(ovV l key).getD (.slice none 0 0), .bool (ovV l key).isSome]) w := by
  obtain ⟨_, D, hown, _, hf⟩ := h
  exact (show VMap Tryz.prog 3 w b l.length (ovV l) from ⟨D, hown, hf⟩).look intU mapU (zeroB w) hkw
theorem OMap.get {w : World} {b : Nat} {l : OV} (h : OMap w b l) {key : Int} (hkw : (Lit.int .i64 key).wf = true) :
    (Instr.lookup 98 (.map (some b)) (.int .i64 key) false).run Tryz.prog w = .ok ((ovV l key).getD (.slice none 0 0)) w := by
  obtain ⟨_, D, hown, _, hf⟩ := h
  obtain ⟨v, ps, hrun, hv⟩ := hown.lookup (int_keyed intU) mapU (zeroB w) (zd := .held (.slice none 0 0)) (zp := []) rfl (keyOf_int_mk intU hkw)
  have e : D.atKey (.int .i64 key) (.held (.slice none 0 0)) = .held v := by
    simp only [heldElem, Option.some.injEq, Prod.mk.injEq] at hv
    exact hv.1.symm
  have h1 := vmapAt_val e
  rw [hf key] at h1
  rw [hrun, ← h1]
theorem OMap.store {w : World} {b : Nat} {l : OV} (h : OMap w b l) (hn : l.length < maxLen) {key : Int} (v : Value) (x : List UInt8) (hkw : (Lit.int .i64 key).wf = true) :
    ∃ w', (Instr.mapUpdate 98 (.map (some b)) (.int .i64 key) v).run Tryz.prog w = .ok () w' ∧ OMap w' b (ovPut key v x l) ∧ Chg [b] w w' := by
  obtain ⟨hs, D, hown, hz, hf⟩ := h
  obtain ⟨w', hrun, r1, r2⟩ := hown.store (int_keyed intU) mapU hn (keyOf_int_mk intU hkw) (d := .held v) (ps := []) rfl
  have hlen : Maps.size (D.put (.int .i64 key) (.held v)) = (ovPut key v x l).length := by
    rw [Maps.size_put (hown.tidy (int_keyed intU))]
    have e1 := vmapAt_isSome D key
    rw [hf key] at e1
    have e2 := ovDel_len hs key
    unfold ovPut
    rw [ovIns_len, ← e1, hz]
    cases hb : (ovV l key).isSome <;> rw [hb] at e2 <;> simp at e2 ⊢ <;> omega
  refine ⟨w', hrun, ⟨hs.put, _, omap_fit r1 hlen, hlen, fun j => ?_⟩, (Chg.refl [b] w).grown r2.grown (fun k hk => .inl (by simp at hk; simp [hk]))⟩
  rw [vmapAt_put (VMap.isMap hown) ((int_keyed intU).key (keyOf_int_mk intU hkw)), hf j, ovV_put hs]
theorem OMap.drop {w : World} {b : Nat} {l : OV} (h : OMap w b l) {key : Int} (ty : TypeId) (hkw : (Lit.int .i64 key).wf = true) :
    ∃ w', (Builtin.delete_ #[98, 3] ty #[.map (some b), .int .i64 key]).run Tryz.prog w = .ok (.tuple #[]) w' ∧ OMap w' b (ovDel key l) ∧ Chg [b] w w' := by
  obtain ⟨hs, D, hown, hz, hf⟩ := h
  obtain ⟨w', hrun, r1, r2⟩ := hown.drop (int_keyed intU) mapU (keyOf_int_mk intU hkw) ty
  have hlen : Maps.size (D.del (.int .i64 key)) = (ovDel key l).length := by
    have e0 := Maps.size_del (k := .int .i64 key) (hown.tidy (int_keyed intU))
    have e1 := vmapAt_isSome D key
    rw [hf key] at e1
    have e2 := ovDel_len hs key
    rw [← e1] at e0
    cases hb : (ovV l key).isSome <;> rw [hb] at e0 e2 <;> simp at e0 e2 <;> omega
  refine ⟨w', hrun, ⟨hs.del key, _, omap_fit r1 hlen, hlen, fun j => ?_⟩, (Chg.refl [b] w).grown r2.grown (fun k hk => .inl (by simp at hk; simp [hk]))⟩
  rw [ovV_del, ← hf j]
  unfold vmapAt
  by_cases e : j = key
  · subst e
    rw [Maps.has_del_same, if_pos rfl]
    rfl
  · rw [if_neg e, Maps.has_del_other (vlit_ne e), Maps.atKey_del_other (vlit_ne e)]
theorem OMap.keys {w : World} {b n : Nat} {l : OV} {D : DataW Value} (hs : OvS l) (hown : w.ownsMap (H := Value) Tryz.prog 3 heldElem b n D) (hf : ∀ k, vmapAt D k = ovV l k) {ss : List Int} (hp : ss.Perm (intKeys D)) :
    ss.mergeSort (fun x y => decide (x ≤ y)) = l.map (·.1) := by
  obtain ⟨es, hD, hpw, _⟩ := hown.entries (int_keyed intU)
  obtain ⟨es', hD', hko⟩ := hown.keysOf
  obtain rfl : es = es' := by rw [hD] at hD'; simpa using hD'
  have hls : (l.map (·.1)).Pairwise (fun x y : Int => x < y) := List.pairwise_map.2 hs
  have hnd : (l.map (·.1)).Nodup := hls.imp (fun h => Int.ne_of_lt h)
  have hpk : (l.map (·.1)).Perm (intKeys D) := by
    rw [hD]
    refine perm_intKeys hpw (fun p hp => by obtain ⟨v, hv⟩ := hko p hp; obtain ⟨x, _, hx, _⟩ := Maps.keyOf_i64 intU hv; exact ⟨x, hx⟩) hnd (fun x => ?_)
    rw [← hD, ← vmapAt_isSome, hf x, List.mem_map]
    constructor
    · rintro ⟨y, hy, rfl⟩
      obtain ⟨a, c, d⟩ := y
      rw [ovV_mem hs hy]; rfl
    · intro h
      obtain ⟨v, hv⟩ := Option.isSome_iff_exists.1 h
      obtain ⟨c, hc⟩ := ovV_some hv
      exact ⟨_, hc, rfl⟩
  rw [show (fun x y : Int => decide (x ≤ y)) = leI from rfl, mergeSort_of_perm_i (hp.trans hpk.symm)]
  refine List.mergeSort_of_pairwise (hls.imp (fun h => ?_))
  simpa [leI] using Int.le_of_lt h
theorem OMap.clone {w : World} {b : Nat} {l : OV} (h : OMap w b l) (L : Go.Proofs.SlLaysW.n5 Tryz.prog Tryz.cloneMF_ren) :
    Calls Tryz.prog (Tryz.cloneMF_ren.f 5) #[.map (some b)] w fun e w' => e = .returned (.map (some w.heap.size)) ∧ OMap w' w.heap.size l ∧ Below w.heap.size w w' := by
  obtain ⟨hs, D, hown, hz, hf⟩ := h
  refine (AnyW.maps_Clone_owns L 3 heldElem b l.length D w hown).mono ?_
  rintro e w' ⟨rfl, h1, _, hb⟩
  exact ⟨rfl, ⟨hs, D, h1, hz, hf⟩, hb⟩
section
variable {w : World} {b : Nat} {l : OV} {ops : Array Oper} {rest : List Oper} {o : Oper} {a : Act} {Q : Exit → Act → World → Prop}
theorem wpList_update_omap (hg : o.guard = none) (m x v : Operand) (hop : o.op = Op.mapUpdate 98 m x v)
    (h : OMap w b l) (hn : l.length < maxLen) (hm : a.eval m = .map (some b)) (key : Int) (val : Value) (bs : List UInt8) (hx : a.eval x = .int .i64 key) (hv : a.eval v = val) (hkw : (Lit.int .i64 key).wf = true)
    (hK : ∀ w', OMap w' b (ovPut key val bs l) → Chg [b] w w' → wpList Tryz.prog ops Q rest (a.put o.dst undef) w') : wpList Tryz.prog ops Q (o :: rest) a w := by
  refine wpList_plain hg fun K' hK' => ?_
  obtain ⟨w', hrun, r1, r2⟩ := h.store hn val bs hkw
  unfold Oper.wp
  simp [execOp, hop, hm, hx, hv, hrun, Result.andThen]
  exact hK' _ _ (hK w' r1 r2)
theorem wpList_delete_omap (hg : o.guard = none) (m x : Operand) (hop : o.op = Op.call { callee := Callee.builtin Builtin.delete, args := #[m, x], argTypes := #[98, 3] })
    (h : OMap w b l) (hm : a.eval m = .map (some b)) (key : Int) (hx : a.eval x = .int .i64 key) (hkw : (Lit.int .i64 key).wf = true)
    (hK : ∀ w', OMap w' b (ovDel key l) → Chg [b] w w' → wpList Tryz.prog ops Q rest (a.put o.dst (.tuple #[])) w') : wpList Tryz.prog ops Q (o :: rest) a w := by
  refine wpList_plain hg fun K' hK' => ?_
  obtain ⟨w', hrun, r1, r2⟩ := h.drop o.type hkw
  unfold Oper.wp
  simp [execOp, hop, resolve, invoke, builtin, hm, hx, hrun, Result.andThen]
  exact hK' _ _ (hK w' r1 r2)
end
theorem ovPut_last {id : Int} {v : Value} {b : List UInt8} : ∀ {l : OV}, (∀ x ∈ l, x.1 < id) → ovPut id v b l = l ++ [(id, v, b)] := fun {l} h => by
  have hd : ovDel id l = l := by
    unfold ovDel
    rw [List.filter_eq_self]
    intro x hx
    have := h x hx
    simp
    omega
  unfold ovPut
  rw [hd]
  clear hd
  induction l with
  | nil => rfl
  | cons x l ih =>
    have hx := h x (List.mem_cons_self ..)
    unfold ovIns
    rw [if_neg (by omega), ih (fun y hy => h y (List.mem_cons_of_mem _ hy))]
    rfl
end Go.Proofs.YtcpgbekcbaelpaaGreatDoor
/- Layer 7: the numbers of all objects, sorted. -/
namespace Go.Proofs.YtcpgbekcbaelpaaGreatDoor
open Go.RowKit Go.Maps Go.Sort Go.Shelf Wr
set_option linter.unusedVariables false
set_option linter.unusedSimpArgs false
theorem sortsI (m : Nat) : AnyZI.SortsIn Tryz.prog Tryz.sortedF_ren Fence.wide m :=
  ⟨fun blk off cap ss W hH hblk hsz => callsIn_wide.2 (Tryz.slices_Sort_int blk off cap ss W hH hblk hsz),
   fun p cap W => callsIn_wide.2 (Tryz.slices_Sort_int_none p cap W)⟩
abbrev keyO (mb : Nat) : Obj := .cells #[.map (some mb)] 98
theorem keys_any (mb : Nat) (W : World) : Calls Tryz.prog 56 #[.map (some mb)] W fun e w' => e = .returned (.func (.func 118) #[] #[.pointer (some ⟨W.heap.size, 0, none⟩)]) ∧ w' = W.alloc (keyO mb) :=
  callsIn_wide.1 (show CallsIn Fence.wide 6 Tryz.prog 56 #[.map (some mb)] W _ from AnyZI.keys_in Tryz.keysF Fence.wide 6 trivial rfl (some mb) W)
theorem OMap.alloc {w : World} {b : Nat} {l : OV} (h : OMap w b l) (o : Obj) : OMap (w.alloc o) b l := h.below ((Below.refl _ w).alloc (Nat.le_refl _) _)
theorem OMap.drewN {w : World} {b : Nat} {l : OV} (h : OMap w b l) (n : Nat) : OMap (w.drewN n) b l := h.below (below_drewN (Below.refl _ w) n)
theorem sorted_any {W : World} {mb : Nat} {l : OV} (h : OMap W mb l) (hl : l.length ≤ 1000000000) :
    Calls Tryz.prog 55 #[.func (.func 118) #[] #[.pointer (some ⟨W.heap.size, 0, none⟩)]] (W.alloc (keyO mb)) fun e w' => ∃ v, e = .returned v ∧ Row w' 3 v (l.map fun x => Value.int .i64 x.1) ∧ (∀ k, v.ownBlock = some k → W.heap.size < k) ∧ Below W.heap.size W w' := by
  have hm := h.alloc (keyO mb)
  obtain ⟨hs, D, hown, hz, hf⟩ := hm
  have hseq : SeqGives Fence.wide 3 Tryz.prog 118 #[.pointer (some ⟨W.heap.size, 0, none⟩)] encZ (fun ss => ss.Perm (intKeys D)) (Maps.size D) (W.alloc (keyO mb)) :=
    AnyZI.keys_gives (ρ := Tryz.keysF_ren) { Tryz.keysF with } Fence.wide _ trivial rfl (by omega) W.heap.size mb l.length D _ (by simp) (by simp) hown
  have cS := AnyZI.sorted_in Tryz.sortedF Fence.wide 6 trivial trivial trivial trivial rfl (by omega) (sortsI _) (enters_of Tryz.func117 (by kernel_rfl) rfl) 118 #[.pointer (some ⟨W.heap.size, 0, none⟩)] trivial (enters_of Tryz.func118 (by kernel_rfl) rfl) _ _ (by rw [hz]; unfold maxLen; omega) (by rw [hz]; omega) _ hseq
  refine (callsIn_wide.1 cS).mono ?_
  rintro e w' ⟨v, ss, rfl, hS, hrow, hnil, hb⟩
  have hkeys := OMap.keys hs hown hf hS
  rw [hkeys] at hrow
  have hlen : ss.length = (l.map fun x => Value.int .i64 x.1).length := by
    have := congrArg List.length hkeys
    rw [List.length_mergeSort, List.length_map] at this
    rw [List.length_map]
    exact this
  have e1 : (l.map (·.1)).map encZ = l.map fun x => Value.int .i64 x.1 := by rw [List.map_map]; rfl
  rw [e1, hlen] at hrow
  have hz2 : (W.alloc (keyO mb)).heap.size = W.heap.size + 1 := by simp
  refine ⟨v, rfl, ownsRow_base_a hrow (Nat.zero_le _), fun k hk => ?_, ((Below.refl _ W).alloc (Nat.le_refl _) _).trans (hb.mono (by omega))⟩
  have := (World.ownsRow.lt hrow k hk).1
  omega
end Go.Proofs.YtcpgbekcbaelpaaGreatDoor
