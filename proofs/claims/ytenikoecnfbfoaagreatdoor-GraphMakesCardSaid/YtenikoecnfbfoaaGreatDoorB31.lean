/- Texts of the proof, in build order: GrSortC. -/
import Derived.Test.YtenikoecnfbfoaaGreatDoorB18
import Derived.Test.YtenikoecnfbfoaaGreatDoorB17
import Derived.Test.YtenikoecnfbfoaaGreatDoorB23
/- Layer 8: roots sorted by the library: its contract at the program's comparison. -/
namespace Go.Proofs.YtenikoecnfbfoaaGreatDoor
open Go.RowKit
set_option linter.unusedVariables false
set_option linter.unusedSimpArgs false
open Gr (RT)
open Go.Sort (grow SWO PermIn SortedIn)

def cmpR (x y : RT) : Int := Lib.compareBytes x.name y.name
theorem ltOf_cmpR (x y : RT) : ltOf cmpR x y = Gr.ltN x.name y.name := rfl
theorem swo_cmpR : SWO (ltOf cmpR) where
  irrefl x := by rw [ltOf_cmpR]; exact Gr.ltN_irrefl _
  trans x y z h1 h2 := by rw [ltOf_cmpR] at *; exact Gr.ltN_trans h1 h2
  ntrans x y z h1 h2 := by rw [ltOf_cmpR] at *; exact Gr.ltN_neg h2 h1
set_option maxRecDepth 100000 in
theorem cmp_any (x y : RT) (W : World) : Calls Tryz.prog 48 #[.agg #[.string (bytes x.name), .string (bytes x.typ), .int .i64 x.id], .agg #[.string (bytes y.name), .string (bytes y.typ), .int .i64 y.id]] W fun e w' => e = .returned (.int .i64 (cmpR x y)) ∧ ∃ q os', w' = grow (W.drewN q) os' := by
  have hcon := fun W' => Tryz.strings_Compare (bytes x.name) (bytes y.name) W'
  have e1 : ∀ l : List UInt8, (bytes l).data.toList = l := fun l => by simp [bytes]
  rw [e1, e1] at hcon
  have HC := Lib.hid hcon
  have hr : Lib.compareBytes x.name y.name = cmpR x y := rfl
  rw [hr] at HC
  generalize cmpR x y = r at HC ⊢
  clear hcon hr e1
  go_enter Tryz.func48, Tryz.ntmps48
  go_wp2_with (go_at_call 49; refine (HC.out _).mono ?_; rintro e w' ⟨rfl, rfl⟩)
  go_ret
  exact ⟨rfl, 0, _, by rw [Go.Sort.alloc_eq_grow, Go.Sort.alloc_eq_grow, Go.Sort.grow_grow]; rfl⟩
theorem permIn_list {d d' : Array RT} [Inhabited RT] (h : PermIn 0 d.size d d') : d'.toList.Perm d.toList := by
  obtain ⟨h1, _, h3⟩ := h
  have e : ∀ a : Array RT, (a.extract 0 a.size) = a := fun a => by simp
  rw [e d] at h3
  rw [← h1, e d'] at h3
  exact h3
theorem sortedIn_list {d : Array RT} [Inhabited RT] (h : SortedIn (ltOf cmpR) 0 d.size d) : Gr.Sorted d.toList := by
  unfold Gr.Sorted
  rw [List.pairwise_iff_getElem]
  intro i j hi hj hij
  have hj2 : j < d.size := by simpa using hj
  have := h i j (Nat.zero_le _) hij hj2
  rw [ltOf_cmpR, getElem!_pos d i (by omega), getElem!_pos d j hj2] at this
  simpa using this
instance : Inhabited RT := ⟨⟨[], [], 0⟩⟩
theorem sortF_any (w : World) (N : Nat) (v : Value) (l : List RT) (h : RtRow 82 w N v l) (hl : l.length ≤ 1000000) :
    Calls Tryz.prog 47 #[v, .func (.func 48) #[] #[]] w fun e w' => e = .returned (.tuple #[]) ∧ ∃ d : List RT, d.Perm l ∧ Gr.Sorted d ∧ RtRow 82 w' N v d ∧ Chg v.ownBlock.toList w w' := by
  by_cases hnil : l = []
  · subst hnil
    obtain ⟨ao, cap, rfl, _⟩ := h.at_
    have hcon := AnyF.slices_SortFunc_none Tryz.sortF ao cap (.func (.func 48) #[] #[]) w
    change Calls Tryz.prog 47 _ _ _ at hcon
    refine hcon.mono ?_
    rintro e w' ⟨rfl, rfl⟩
    exact ⟨rfl, [], .refl _, .nil, h, Chg.refl _ _⟩
  · rcases h.1.2 with ⟨hv, hn⟩ | ⟨g, cap, cur, rfl, hb, hg, _⟩
    · exact absurd (List.length_eq_zero_iff.1 hn) hnil
    · have eg : ∀ args w, (callFunc 48 args).run Tryz.prog w = .ok (.enter 48 args) w := enters_of Tryz.func48 (by kernel_rfl) rfl
      have hcon := AnyQ.slices_SortFunc Tryz.sortF 3 Tryz.isAgg82 Tryz.sizeOf82 rcs rcs_len rcs_one cmpR swo_cmpR 48 #[] g 0 cap l.toArray w eg (fun _ _ _ _ x y => cmp_any x y _) h.holds (lt_of_block hg) (by simp; omega)
      change Calls Tryz.prog 47 _ _ _ at hcon
      refine hcon.mono ?_
      rintro e w' ⟨rfl, d', n, os, hp, hs, rfl⟩
      have hsz : d'.size = l.length := by have := hp.1; simpa using this
      refine ⟨rfl, d'.toList, permIn_list hp, sortedIn_list (by rw [hsz]; simpa using hs), h.sorted d' (by simpa using hsz) os, ?_⟩
      exact sortWorld_chg rcs 3 w g n d' os
end Go.Proofs.YtenikoecnfbfoaaGreatDoor
