/- Texts of the proof, in build order: QStill. -/
import Derived.Test.YtenikoecnfbfoaaGreatDoorProg
import Derived.StillTailTactics
/- Regions that only read, step by step: the region's text kept out of sight. -/
namespace Go.Proofs.YtenikoecnfbfoaaGreatDoor
section
variable {P : Program} {X : Array Oper} {w : World} {Q : Act → Prop} {a : Act} {o : Oper} {rest : List Oper}
theorem still_abs {id : Nat} {Q : Exit → Act → World → Prop} {l : List Oper} (n : Nat) (hm : P.follows .mixedOrders = true) (hB : Region.lexTailB .any l.toArray n = true)
    (h : ∀ X : Array Oper, (∀ (j d : Nat), ((l[j]?).bind (·.dst)) = some d → ((X[j]?).bind (·.dst)) = some d) → wpStill P X w.drew (fun a' => wpList P X Q (l.drop n) a' w.drew) (l.take n) a) : (Code.region id l.toArray true).wp P Q a w :=
  wp_region_still_tail n hm hB (h l.toArray (fun j d hd => by rw [List.getElem?_toArray]; exact hd))
theorem st_plain (hg : o.guard = none) (h : ∀ K : Act → Prop, (∀ a, wpStill P X w Q rest a → K a) → o.still P a w K) : wpStill P X w Q (o :: rest) a := by
  have hw : Region.wanted o (yielded X a.tmps) = true := by simp [Region.wanted, hg]
  unfold wpStill
  rw [if_pos hw]
  exact h _ (fun _ h => h)
theorem st_want {j d : Nat} {b : Bool} (hg : o.guard = some (j, b)) (hd : ((X[j]?).bind (·.dst)) = some d) (hv : a.tmps[d]? = some (.bool b)) (h : ∀ K : Act → Prop, (∀ a, wpStill P X w Q rest a → K a) → o.still P a w K) : wpStill P X w Q (o :: rest) a := by
  have hw : Region.wanted o (yielded X a.tmps) = true := by
    unfold Region.wanted yielded
    rw [hg]
    simp only [hd, Option.bind_some, hv]
    simp
  unfold wpStill
  rw [if_pos hw]
  exact h _ (fun _ h => h)
theorem st_skip {j d : Nat} {b : Bool} {v : Value} (hg : o.guard = some (j, b)) (hd : ((X[j]?).bind (·.dst)) = some d) (hv : a.tmps[d]? = some v) (hb : (match v with | .bool c => c == b | _ => false) = false) (h : ∀ K : Act → Prop, (∀ a, wpStill P X w Q rest a → K a) → K (a.put o.dst undef)) : wpStill P X w Q (o :: rest) a := by
  have hw : Region.wanted o (yielded X a.tmps) = false := by
    unfold Region.wanted yielded
    rw [hg]
    simp only [hd, Option.bind_some, hv]
    cases v <;> simp_all
  unfold wpStill
  rw [if_neg (by rw [hw]; decide)]
  exact h _ (fun _ h => h)
end
end Go.Proofs.YtenikoecnfbfoaaGreatDoor
