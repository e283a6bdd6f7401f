/- Texts of the proof, in build order: StCs. -/
import Derived.Test.YtcpgbekcbaelpaaGreatDoorC14
set_option linter.unusedVariables false
set_option linter.unusedSimpArgs false
set_option linter.unusedSectionVars false
/- Layer 7 in plain words: the power goes while a store is turned over. No program in sight. -/
namespace Go.Proofs.YtcpgbekcbaelpaaGreatDoor
open Wr
set_option linter.unusedVariables false
set_option linter.unusedSimpArgs false
namespace St
def applied (f : Nat → List UInt8) (ws : List (Nat × List UInt8)) : Nat → List UInt8 := ws.foldl (fun f x => upd f x.1 x.2) f
theorem Live.congr {d : Dk} {n : Nat} {f f' : Nat → List UInt8} (h : Live d n f) (he : ∀ i, i < n → f i = f' i) : Live d n f' := ⟨h.off, h.left, h.len, h.ws, fun i hi => (h.now i hi).trans (he i hi)⟩
/-- The store that a turning over leaves; its sectors ahead of the log's new head, and behind it. -/
def turned (s : Sto) (o : Objs) (next : Int) : Hd2 := ⟨s.hd.turn + 1, 1 - s.hd.half, (image o next).length, (crc (image o next) : Nat), s.hd.age + 1⟩
def fHalf (s : Sto) (o : Objs) (next : Int) (f : Nat → List UInt8) : Nat → List UInt8 := updL f (2 + s.count + (1 - s.hd.half).toNat * s.each) (chunks 512 (full (image o next)))
def fMid (s : Sto) (o : Objs) (next : Int) (f : Nat → List UInt8) : Nat → List UInt8 := upd (fHalf s o next f) (1 - (s.hd.turn + 1) % 2).toNat (full (turned s o next).bytes)
def fFin (s : Sto) (o : Objs) (next : Int) (f : Nat → List UInt8) : Nat → List UInt8 := upd (fMid s o next f) (2 + (1 - (s.hd.age + 1) % 2).toNat) (pad (logHead (s.hd.age + 1)))
/-- Objects that a turning over may lay down. -/
structure Lays (dec : List UInt8 → Bool) (s : Sto) (o : Objs) (next : Int) : Prop where
  ob : ObjsOk dec o next
  fit : (image o next).length ≤ s.each * 512
  cap : (image o next).length ≤ 67108864
  turn : s.hd.turn + 1 ≤ mostAge
  age : s.hd.age + 1 ≤ mostAge
/-- Where a disk stands behind a turning over that the power broke off (e: what was told). -/
inductive Torn (dec : List UInt8 → Bool) (s : Sto) (n : Nat) (f : Nat → List UInt8) (o : Objs) (next : Int) (d : Dk) : Prop
  | old (f' : Nat → List UInt8) (h : Live d n f') (hw : d.waits = []) (hf : ∀ i, i < n → (i < 2 + s.count + (1 - s.hd.half).toNat * s.each ∨ 2 + s.count + (1 - s.hd.half).toNat * s.each + s.each ≤ i) → f' i = f i)
  | mid (h : Live d n (fMid s o next f)) (hw : d.waits = [])
  | fin (h : Live d n (fFin s o next f)) (hw : d.waits = [])
/-- Deeds that only read; deeds that leave nothing waiting. -/
def Still {α : Type} (m : DM α) : Prop := ∀ d, (m d).2 = d
theorem Still.ret {α : Type} (a : α) : Still (DM.ret a) := fun d => rfl
theorem Still.no {α : Type} (e : Int) : Still (DM.no e : DM α) := fun d => rfl
theorem Still.andThen {α β : Type} {m : DM α} {f : α → DM β} (h : Still m) (k : ∀ a, Still (f a)) : Still (m.andThen f) := fun d => by
  unfold DM.andThen
  have := h d
  cases hm : m d with
  | mk r d' =>
    rw [hm] at this
    have e : d' = d := this
    subst e
    cases r with
    | ok a => exact k a _
    | error e => rfl
theorem still_read (i : Int) : Still (readD i) := fun d => by unfold readD; split <;> rfl
theorem still_reads : ∀ (k : Nat) (i : Int), Still (readsD i k)
  | 0, i => Still.ret _
  | k + 1, i => (still_read i).andThen fun _ => (still_reads k (i + 1)).andThen fun _ => Still.ret _
theorem still_load (dec : List UInt8 → Bool) (count each : Nat) : Still (load dec count each) := by
  unfold load
  refine (still_read 0).andThen fun b0 => (still_read 1).andThen fun b1 => ?_
  dsimp only
  split
  · exact Still.no _
  · refine (still_reads _ _).andThen fun b => ?_
    split
    · exact Still.no _
    · split
      · exact Still.ret _
      · exact Still.no _
theorem still_logOpen (count : Nat) : Still (logOpen count) := fun d => by
  unfold logOpen
  split
  · rfl
  · dsimp only
    split <;> rfl
theorem barrier_empty {d d' : Dk} {u : Unit} (h : barrierD d = (.ok u, d')) : d'.waits = [] := by
  unfold barrierD at h
  split at h
  · rename_i h0
    cases h
    unfold Dk.barrier at h0 ⊢
    split at h0
    · cases h0
    · rename_i h1
      rw [if_neg h1]
      split at h0
      · rename_i h2; exact absurd h0 h2
      · rename_i h2
        rw [if_neg h2]
  · cases h
theorem truncate_empty {l l' : Lg} {d d' : Dk} (h : l.truncate d = (.ok l', d')) : d'.waits = [] := by
  unfold Lg.truncate DM.andThen at h
  cases h1 : writeD (((l.first : Nat) : Int) + (1 - (l.age + 1) % 2)) (pad (logHead (l.age + 1))) d with
  | mk r d1 =>
    rw [h1] at h
    cases r with
    | error e => cases h
    | ok u =>
      dsimp only at h
      cases h2 : barrierD d1 with
      | mk r d2 =>
        rw [h2] at h
        cases r with
        | error e => cases h
        | ok u =>
          cases h
          exact barrier_empty h2
theorem Torn.empty {dec : List UInt8 → Bool} {s : Sto} {n : Nat} {f : Nat → List UInt8} {o : Objs} {next : Int} {d : Dk} (h : Torn dec s n f o next d) : d.waits = [] := by cases h <;> assumption
end St
end Go.Proofs.YtcpgbekcbaelpaaGreatDoor
