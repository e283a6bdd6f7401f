/- Texts of the proof, in build order: HeldRound. -/
import Derived.Test.YtcpgbekcbaelpaaGreatDoorF04
import Derived.Test.YtcpgbekcbaelpaaGreatDoorF03
set_option linter.unusedVariables false
set_option linter.unusedSimpArgs false
set_option linter.unusedSectionVars false
/- A region that draws its order, within a round: its operations taken one by one, some facts held. -/
namespace Go.Proofs.YtcpgbekcbaelpaaGreatDoor
set_option linter.unusedVariables false
theorem held_round {P : Program} {Q : Exit → Act → World → Prop} {n k id : Nat} {l : List Oper} {S : World → Prop} {a : Act} {w : World} (hm : P.follows .mixedOrders = true) (hd : noDefer l = true) (hQ : ¬ LetsOut Q) (hS : S w.drew)
    (h : S w.drew → wpAnyH P .any l.toArray Q S l.toArray.size (Array.replicate l.toArray.size false) a w.drew) : (Code.region id l.toArray true).wpIn (Fence.wide.inRound k) n P Q a w := by
  refine wpIn_region_any hm (any_in (fun i o ho c e => ?_) hQ _ _ _ _ (wpAny_of_held _ _ _ _ (h hS)))
  rw [List.getElem?_toArray] at ho
  have := List.all_eq_true.1 hd o (List.mem_of_getElem? ho)
  rw [e] at this
  cases this
def noPanic (Q : Exit → Act → World → Prop) : Exit → Act → World → Prop
  | .panic _, _, _ => False
  | e, a, w => Q e a w
theorem wp_noPanic {P : Program} {c : Code} {Q : Exit → Act → World → Prop} {a : Act} {w : World} (h : c.wp P (noPanic Q) a w) : c.wp P Q a w :=
  wp_mono h (fun e a w he => by cases e <;> first | exact he | exact he.elim)
end Go.Proofs.YtcpgbekcbaelpaaGreatDoor
