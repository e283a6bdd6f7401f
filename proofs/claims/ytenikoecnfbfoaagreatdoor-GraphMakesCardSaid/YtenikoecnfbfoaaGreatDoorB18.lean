/- Texts of the proof, in build order: GrRow. -/
import Derived.Test.YtenikoecnfbfoaaGreatDoorB01
import Derived.Test.YtenikoecnfbfoaaGreatDoorB09
import Derived.Test.YtenikoecnfbfoaaGreatDoorB12
import Derived.Shelf.GgSortFunc.InsertionK
/- Layer 8: rows of roots in memory; what the library's sort leaves of a row. -/
namespace Go.Proofs.YtenikoecnfbfoaaGreatDoor
open Go.RowKit
set_option linter.unusedVariables false
set_option linter.unusedSimpArgs false
open Gr (RT)

/-- A root's three cells. -/
def rcs (r : RT) : List Value := [.string (bytes r.name), .string (bytes r.typ), .int .i64 r.id]
theorem rcs_len (r : RT) : (rcs r).length = 3 := rfl
theorem rcs_one (r : RT) : ∀ v ∈ rcs r, v.oneCell' = true := by
  intro v hv
  simp only [rcs, List.mem_cons, List.not_mem_nil, or_false] at hv
  rcases hv with rfl | rfl | rfl <;> rfl
def rtcells (l : List RT) : List Value := l.flatMap rcs
theorem rtcells_nil : rtcells [] = [] := rfl
theorem rtcells_cons (r : RT) (l : List RT) : rtcells (r :: l) = rcs r ++ rtcells l := rfl
theorem rtcells_append (a b : List RT) : rtcells (a ++ b) = rtcells a ++ rtcells b := List.flatMap_append
theorem rtcells_length : ∀ l : List RT, (rtcells l).length = l.length * 3
  | [] => rfl
  | r :: l => by rw [rtcells_cons, List.length_append, rtcells_length l, rcs_len, List.length_cons]; omega
theorem rtcells_one : ∀ (l : List RT), ∀ v ∈ rtcells l, v.oneCell' = true := fun l v hv => by
  obtain ⟨r, _, h⟩ := List.mem_flatMap.1 hv
  exact rcs_one r v h
theorem rtcells_get : ∀ {l : List RT} {j : Nat} {r : RT}, l[j]? = some r → (rtcells l)[j * 3]? = some (.string (bytes r.name)) ∧ (rtcells l)[j * 3 + 1]? = some (.string (bytes r.typ)) ∧ (rtcells l)[j * 3 + 2]? = some (.int .i64 r.id)
  | [], _, _, h => by cases h
  | x :: l, 0, r, h => by rw [List.getElem?_cons_zero] at h; cases h; exact ⟨rfl, rfl, rfl⟩
  | x :: l, j + 1, r, h => by
    rw [List.getElem?_cons_succ] at h
    obtain ⟨h1, h2, h3⟩ := rtcells_get h
    have e : ∀ k, (rtcells (x :: l))[(j + 1) * 3 + k]? = (rtcells l)[j * 3 + k]? := fun k => by
      rw [rtcells_cons, List.getElem?_append_right (by rw [rcs_len]; omega), rcs_len]
      congr 1
      omega
    exact ⟨(e 0).trans h1, (e 1).trans h2, (e 2).trans h3⟩
/-- A row of roots (of the type T) that the call itself made. -/
def RtRow (T : TypeId) (w : World) (N : Nat) (v : Value) (l : List RT) : Prop := RowZ w T 3 v l.length (rtcells l) ∧ ∀ k, v.ownBlock = some k → N ≤ k
theorem RtRow.below {T : TypeId} {w w' : World} {N : Nat} {v : Value} {l : List RT} (h : RtRow T w N v l) (hb : Below w.heap.size w w') : RtRow T w' N v l := ⟨h.1.below hb (fun k hk => h.1.lt hk), h.2⟩
theorem RtRow.chg {T : TypeId} {w w' : World} {N : Nat} {v : Value} {l : List RT} {F : List Nat} (h : RtRow T w N v l) (hc : Chg F w w') (hF : ∀ k, v.ownBlock = some k → k ∉ F) : RtRow T w' N v l := ⟨h.1.chg hc hF, h.2⟩
theorem RtRow.nil (T : TypeId) (w : World) (N : Nat) : RtRow T w N (.slice none 0 0) [] := ⟨RowZ.nil _ _ _, fun k hk => by simp [Value.ownBlock] at hk⟩
theorem RtRow.mono {T : TypeId} {w : World} {N M : Nat} {v : Value} {l : List RT} (h : RtRow T w N v l) (hM : M ≤ N) : RtRow T w M v l := ⟨h.1, fun k hk => Nat.le_trans hM (h.2 k hk)⟩
/-- A slice that reads as roots. -/
def RtAt (w : World) (v : Value) (l : List RT) : Prop :=
  ∃ ao cap, v = .slice ao l.length cap ∧ l.length ≤ cap ∧ cap ≤ maxLen ∧ (ao = none → cap = 0) ∧ (∀ b off s, ao = some ⟨b, off, s⟩ → s = none ∧ b < w.heap.size) ∧ ∀ (j : Nat) u, (rtcells l)[j]? = some u → ∃ b off, ao = some ⟨b, off, none⟩ ∧ w.cell? ⟨b, off + j, none⟩ = some u
theorem RtAt.below {w w' : World} {v : Value} {l : List RT} (h : RtAt w v l) (hb : Below w.heap.size w w') : RtAt w' v l := by
  obtain ⟨ao, cap, h1, h2, h3, h4, h5, h6⟩ := h
  refine ⟨ao, cap, h1, h2, h3, h4, fun b off s hs => ⟨(h5 b off s hs).1, Nat.lt_of_lt_of_le (h5 b off s hs).2 hb.size⟩, fun j u hj => ?_⟩
  obtain ⟨b, off, e1, e2⟩ := h6 j u hj
  exact ⟨b, off, e1, (hb.cell (p := ⟨b, off + j, none⟩) (h5 b off none e1).2).trans e2⟩
theorem RtRow.at_ {T : TypeId} {w : World} {N : Nat} {v : Value} {l : List RT} (h : RtRow T w N v l) : RtAt w v l := by
  rcases h.1.2 with ⟨hv, hn⟩ | ⟨g, cap, cur, hv, hb, hg, h1, h2, h3, h4⟩
  · have hl : l = [] := List.length_eq_zero_iff.1 hn
    subst hl
    exact ⟨none, 0, hv, Nat.le_refl _, by unfold maxLen; omega, fun _ => rfl, (fun b off s e => by cases e), fun j u hj => by cases hj⟩
  · refine ⟨some ⟨g, 0, none⟩, cap, hv, h1, h2, (fun e => by cases e), (fun b off s e => by cases e; exact ⟨rfl, lt_of_block hg⟩), fun j u hj => ⟨g, 0, rfl, ?_⟩⟩
    rw [Nat.zero_add]
    have hr := h.1
    rw [hv] at hr
    have hl := (List.getElem?_eq_some_iff.1 hj).1
    exact (hr.cellAt j hl).trans hj

/-- The program's sorted, ended. -/
def SrtEnd (w : World) (l : List RT) (e : Ending) (w' : World) : Prop :=
  ∃ v, e = .returned (.tuple #[v, .bool (Gr.sortO l []).isSome]) ∧ (∀ s, Gr.sortO l [] = some s → RtRow 82 w' w.heap.size v s) ∧ (Gr.sortO l [] = none → v = .slice none 0 0) ∧ Below w.heap.size w w'
section sorted
open Go.Sort (flatK putRowK HoldsK Holds putCells mapBlock onCells grow)
theorem range_flat {α : Type} [Inhabited α] (enc : α → List Value) (k : Nat) (hk : ∀ x, (enc x).length = k) (h0 : 0 < k) : ∀ l : List α, (List.range (l.length * k)).map (fun t => (enc (l[t / k]!))[t % k]!) = l.flatMap enc
  | [] => by simp
  | x :: l => by
    have e : (x :: l).length * k = k + l.length * k := by rw [List.length_cons, Nat.add_mul, Nat.one_mul, Nat.add_comm]
    rw [e, List.range_add, List.map_append, List.map_map, List.flatMap_cons]
    congr 1
    · apply List.ext_getElem
      · rw [List.length_map, List.length_range, hk]
      · intro i h1 h2
        rw [List.getElem_map, List.getElem_range]
        have hi : i < k := by rw [hk] at h2; exact h2
        rw [Nat.div_eq_of_lt hi, Nat.mod_eq_of_lt hi]
        simp [getElem!_pos, h2]
    · rw [← range_flat enc k hk h0 l]
      apply List.map_congr_left
      intro t ht
      simp only [Function.comp_apply]
      rw [Nat.add_div_left _ h0, Nat.add_mod_left]
      simp
theorem flatK_list {α : Type} [Inhabited α] (enc : α → List Value) (k : Nat) (hk : ∀ x, (enc x).length = k) (h0 : 0 < k) (d : Array α) : (flatK enc k d).toList = d.toList.flatMap enc := by
  rw [← range_flat enc k hk h0 d.toList]
  unfold flatK
  simp
  intro a _
  have e : d[a / k]! = d[a / k]?.getD default := by simp [getElem!_def, Option.getD]; cases d[a / k]? <;> rfl
  rw [e]
theorem putCells_take (F cur : Array Value) (h : F.size ≤ cur.size) : (putCells id 0 F cur).toList.take F.size = F.toList ∧ (putCells id 0 F cur).size = cur.size := by
  have hs : (putCells id 0 F cur).size = cur.size := by unfold putCells; simp
  refine ⟨?_, hs⟩
  apply List.ext_getElem
  · rw [List.length_take, Array.length_toList, hs, Array.length_toList]; omega
  · intro i h1 h2
    rw [List.getElem_take, Array.getElem_toList, Array.getElem_toList]
    have hi : i < F.size := by simpa using h2
    unfold putCells
    rw [Array.getElem_mapIdx, if_pos ⟨Nat.zero_le _, by omega⟩]
    simp [getElem!_pos, hi]
theorem sortWorld_other {α : Type} [Inhabited α] (enc : α → List Value) (k : Nat) (w : World) (g n : Nat) (d : Array α) (os : Array Obj) (j : Nat) (hj : j < w.heap.size) (hg : j ≠ g) : (sortWorldK enc k w g 0 n d os).heap[j]? = w.heap[j]? := by
  unfold sortWorldK putRowK Go.Sort.putRow
  rw [Go.Sort.heap_grow_old _ _ (by simp [mapBlock, Go.Sort.ahead]; exact hj)]
  simp [mapBlock, Go.Sort.ahead, Array.getElem?_modify, Ne.symm hg]
theorem sortWorld_block {α : Type} [Inhabited α] (enc : α → List Value) (k : Nat) (w : World) (g n : Nat) (d : Array α) (os : Array Obj) {cur : Array Value} {T : TypeId} (hg : w.heap[g]? = some (.cells cur T (0, 0))) : (sortWorldK enc k w g 0 n d os).heap[g]? = some (.cells (putCells id 0 (flatK enc k d) cur) T (0, 0)) := by
  have hl := lt_of_block hg
  unfold sortWorldK putRowK Go.Sort.putRow
  rw [Go.Sort.heap_grow_old _ _ (by simp [mapBlock, Go.Sort.ahead]; exact hl)]
  simp [mapBlock, Go.Sort.ahead, Array.getElem?_modify, hg, onCells]
theorem sortWorld_chg {α : Type} [Inhabited α] (enc : α → List Value) (k : Nat) (w : World) (g n : Nat) (d : Array α) (os : Array Obj) : Chg [g] w (sortWorldK enc k w g 0 n d os) := by
  refine ⟨rfl, rfl, rfl, ?_, fun j hj hm => sortWorld_other enc k w g n d os j hj (by simpa using hm)⟩
  unfold sortWorldK putRowK Go.Sort.putRow
  rw [Go.Sort.size_grow]
  simp [mapBlock, Go.Sort.ahead]
/-- A row of roots, sorted in place. -/
theorem RtRow.sorted {T : TypeId} {w : World} {N g cap n : Nat} {l : List RT} (h : RtRow T w N (.slice (some ⟨g, 0, none⟩) l.length cap) l) [Inhabited RT] (d : Array RT) (hd : d.toList.length = l.length) (os : Array Obj) :
    RtRow T (sortWorldK rcs 3 w g 0 n d os) N (.slice (some ⟨g, 0, none⟩) l.length cap) d.toList := by
  rcases h.1.2 with ⟨hv, hn⟩ | ⟨g', cap', cur, hv, hb, hg, h1, h2, h3, h4⟩
  · cases hv
  · cases hv
    have hf := flatK_list rcs 3 rcs_len (by omega) d
    have hfs : (flatK rcs 3 d).size = l.length * 3 := by
      rw [← Array.length_toList, hf]
      show (rtcells d.toList).length = _
      rw [rtcells_length, hd]
    have hp := putCells_take (flatK rcs 3 d) cur (by rw [hfs, h3]; exact Nat.mul_le_mul_right 3 h1)
    refine ⟨⟨by rw [rtcells_length], .inr ⟨g, cap, _, by rw [hd], hb, sortWorld_block rcs 3 w g n d os hg, by rw [hd]; exact h1, h2, by rw [hp.2, h3], ?_⟩⟩, h.2⟩
    rw [hd, ← hfs, hp.1, hf]
    rfl
/-- A row of roots, as the sort reads it. -/
theorem RtRow.holds {T : TypeId} {w : World} {N g cap : Nat} {l : List RT} [Inhabited RT] (h : RtRow T w N (.slice (some ⟨g, 0, none⟩) l.length cap) l) : HoldsK rcs 3 w g 0 l.toArray := by
  have hf := flatK_list rcs 3 rcs_len (by omega) l.toArray
  intro j hj
  have hfs : (flatK rcs 3 l.toArray).size = l.length * 3 := by simp
  rw [hfs] at hj
  have hr := h.1
  have hj2 : j < (rtcells l).length := by rw [rtcells_length]; exact hj
  have hc := hr.cellAt j hj2
  rw [Nat.zero_add]
  refine ⟨?_, ?_⟩
  · rw [hc]
    have e : (flatK rcs 3 l.toArray).toList[j]? = (rtcells l)[j]? := by rw [hf]; rfl
    rw [← e, getElem!_pos _ j (by rw [hfs]; exact hj)]
    simp
  · rcases h.1.2 with ⟨hv, _⟩ | ⟨g', cap', cur, hv, hb, hg, _⟩
    · cases hv
    · cases hv
      simp [World.frozen?, hg]
end sorted
end Go.Proofs.YtenikoecnfbfoaaGreatDoor
