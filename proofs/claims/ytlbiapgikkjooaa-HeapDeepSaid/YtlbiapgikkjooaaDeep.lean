/- HeapDeep: what its calls come to. -/
import Derived.Test.YtlbiapgikkjooaaHeaps
import Derived.Test.YtlbiapgikkjooaaTree
import Derived.Test.YtlbiapgikkjooaaMineR
import Derived.Test.YtlbiapgikkjooaaEnd
namespace Go.Proofs.Ytlbiapgikkjooaa
open Go.RowKit Go.Maps Hp

def AtBuild (N : Nat) (w0 : World) (p : Nat) (l : List TItem) (ds bs : List Nat) (rest : List Ref) (φ : Nat → Nat) (w : World) : Prop := ∃ A, Build A 3000 l ds bs rest ∧ Mine N w0 p A φ 0 w
def BuildEnd (N : Nat) (w0 : World) (p : Nat) (l : List TItem) (ds bs : List Nat) (rest : List Ref) (φ : Nat → Nat) (v : Value) (e : Ending) (w : World) : Prop := e = .returned v ∧ AtBuild N w0 p l ds bs rest φ w
def AtBuildB (N : Nat) (w0 : World) (p : Nat) (l : List TItem) (ds bs : List Nat) (n : Int) (s : List UInt8) (w : World) : Prop :=
  ∃ A φ b, Build A 3000 l ds bs [imm n, obj b] ∧ A.objs[b]? = some ⟨1, true, [], s⟩ ∧ b ∉ ds ++ bs ∧ Mine N w0 p A φ 0 w
def BuildBEnd (N : Nat) (w0 : World) (p : Nat) (l : List TItem) (ds bs : List Nat) (n : Int) (s : List UInt8) (v : Value) (e : Ending) (w : World) : Prop := e = .returned v ∧ AtBuildB N w0 p l ds bs n s w
def BuildNew (N : Nat) (w0 : World) (p : Nat) (l : List TItem) (v : Value) (e : Ending) (w : World) : Prop := e = .returned v ∧ ∃ ds bs φ, AtBuild N w0 p l ds bs [] φ w
def AtTree (N : Nat) (w0 : World) (p : Nat) (l : List TItem) (t : Nat) (ds bs : List Nat) (rest : List Ref) (φ : Nat → Nat) (w : World) : Prop := ∃ A, TreeIs A 3000 l t ds bs rest ∧ Mine N w0 p A φ 0 w
def TreeEnd (N : Nat) (w0 : World) (p : Nat) (l : List TItem) (t : Nat) (ds bs : List Nat) (rest : List Ref) (φ : Nat → Nat) (v : Value) (e : Ending) (w : World) : Prop := e = .returned v ∧ AtTree N w0 p l t ds bs rest φ w
def TreeNew (N : Nat) (w0 : World) (p : Nat) (l : List TItem) (v : Value) (e : Ending) (w : World) : Prop := e = .returned v ∧ ∃ t ds bs φ, AtTree N w0 p l t ds bs [] φ w
def AtTreeG (N : Nat) (w0 : World) (p : Nat) (l : List TItem) (t : Nat) (ds bs : List Nat) (w : World) : Prop :=
  ∃ A φ g n, TreeIs A 3000 l t ds bs [obj g] ∧ A.objs[g]? = some ⟨6, false, [imm n, obj t], []⟩ ∧ g ∉ t :: (ds ++ bs) ∧ Mine N w0 p A φ 0 w
def TreeGEnd (N : Nat) (w0 : World) (p : Nat) (l : List TItem) (t : Nat) (ds bs : List Nat) (v : Value) (e : Ending) (w : World) : Prop := e = .returned v ∧ AtTreeG N w0 p l t ds bs w
def TreeGR (N : Nat) (w0 : World) (p : Nat) (l : List TItem) (t : Nat) (ds bs : List Nat) (v : Value) (e : Ending) (w : World) : Prop := e = .returned v ∧ ∃ φ r1 r2, AtTree N w0 p l t ds bs [r1, r2] φ w

section
variable {N : Nat} {w0 w : World} {p t : Nat} {l : List TItem} {ds bs : List Nat} {rest : List Ref} {φ : Nat → Nat}

theorem AtBuild.below (h : AtBuild N w0 p l ds bs rest φ w) : Below N w0 w := by obtain ⟨A, _, h⟩ := h; exact h.below
theorem AtBuildB.below {n : Int} {s : List UInt8} (h : AtBuildB N w0 p l ds bs n s w) : Below N w0 w := by obtain ⟨A, φ, b, _, _, _, h⟩ := h; exact h.below
theorem AtTree.below (h : AtTree N w0 p l t ds bs rest φ w) : Below N w0 w := by obtain ⟨A, _, h⟩ := h; exact h.below
theorem AtBuild.drewN (h : AtBuild N w0 p l ds bs rest φ w) (n : Nat) : AtBuild N w0 p l ds bs rest φ (w.drewN n) := by obtain ⟨A, h1, h⟩ := h; exact ⟨A, h1, h.drewN n⟩
theorem AtBuildB.drewN {n : Int} {s : List UInt8} (h : AtBuildB N w0 p l ds bs n s w) (q : Nat) : AtBuildB N w0 p l ds bs n s (w.drewN q) := by obtain ⟨A, φ, b, h1, h2, h3, h⟩ := h; exact ⟨A, φ, b, h1, h2, h3, h.drewN q⟩

theorem build_push (h : AtBuild N w0 p l ds bs [] φ w) (hl : l.length ≤ 12) (n : Int) {x : Int} (hx : x = 2 * wr n + 1) : Calls Try.prog 15 #[.pointer (some ⟨p, 0, none⟩), .int .i64 x] w (BuildEnd N w0 p l ds bs [imm (wr n)] φ (.tuple #[])) := by
  obtain ⟨A, h1, h2⟩ := h
  refine (mine_push h2 (by rw [h1.len]; simp; omega) (r := imm (wr n)) (ok_imm (wr_ge n) (wr_le n)) hx rfl).mono ?_
  rintro e w' ⟨he, hM⟩
  exact ⟨he, _, h1.push _, hM⟩
theorem build_raw {n : Int} (h : AtBuild N w0 p l ds bs [imm n] φ w) (hl : l.length ≤ 12) (hw : weight l ≤ 1000) (s : ByteArray) (hs : s.size ≤ 100) : Calls Try.prog 26 #[.pointer (some ⟨p, 0, none⟩), .int .i64 1, .string s] w (BuildBEnd N w0 p l ds bs n s.data.toList (.int .i64 0)) := by
  obtain ⟨A, h1, h2⟩ := h
  have hlv := h1.live_le (by simp [imm]) h2.wf
  refine (mine_raws h2 (by rw [h1.len]; simp; omega) (by omega) 1 s rfl (by omega) (by omega) (by rw [h1.lim]; omega) rfl).mono ?_
  rintro e w' ⟨he, φ', hM⟩
  obtain ⟨g1, g2, g3, _⟩ := h1.raw s.data.toList
  exact ⟨he, _, φ', _, g1, g2, g3, hM⟩
theorem build_make {n : Int} {s : List UInt8} (h : AtBuildB N w0 p l ds bs n s w) (hl : l.length ≤ 12) (hw : weight l ≤ 1000) (hs : s.length ≤ 100) {k : Nat} {K : Int} (hK : K = k) (hk : k ≤ 1000) : Calls Try.prog 16 #[.pointer (some ⟨p, 0, none⟩), .int .i64 K, .int .i64 2] w (BuildNew N w0 p (l ++ [⟨k, n, s⟩]) (.int .i64 0)) := by
  obtain ⟨A, φ, b, h1, hb, hnb, h2⟩ := h
  have hlv := h1.live_le2 hb hnb h2.wf
  refine (mine_makes h2 (by rw [h1.len]; simp; omega) (by omega) k 2 hK rfl hk (by rw [h1.len]; simp) (by rw [h1.lim]; omega) rfl).mono ?_
  rintro e w' ⟨he, φ', hM⟩
  exact ⟨he, _, _, φ', _, h1.make hb hnb k, hM⟩
theorem build_tree (h : AtBuild N w0 p l ds bs [] φ w) (hl : l.length ≤ 12) (hw : weight l ≤ 1000) {n : Int} (hn : n = (l.length : Nat)) : Calls Try.prog 16 #[.pointer (some ⟨p, 0, none⟩), .int .i64 5, .int .i64 n] w (TreeNew N w0 p l (.int .i64 0)) := by
  obtain ⟨A, h1, h2⟩ := h
  have hlv := h1.live_le (by simp) h2.wf
  refine (mine_makes h2 (by rw [h1.len]; simp; omega) (by omega) 5 l.length rfl hn (by omega) (by rw [h1.len]; simp) (by rw [h1.lim]; omega) rfl).mono ?_
  rintro e w' ⟨he, φ', hM⟩
  exact ⟨he, _, _, _, φ', _, h1.tree, hM⟩
theorem tree_live (h : AtTree N w0 p l t ds bs [] φ w) {v : Int} (hv : v = (treeLive l : Nat)) : Calls Try.prog 18 #[.pointer (some ⟨p, 0, none⟩)] w fun e w' => e = .returned (.int .i64 v) ∧ ∃ φ, AtTree N w0 p l t ds bs [] φ w' := by
  obtain ⟨A, h1, h2⟩ := h
  refine (mine_live h2 (by rw [h1.st]; simp) (by omega) (v := v) (by rw [hv, h1.live h2.wf])).mono ?_
  rintro e w' ⟨he, φ', hM⟩
  exact ⟨he, φ', _, h1, hM⟩
theorem tree_push (h : AtTree N w0 p l t ds bs [] φ w) (n : Nat) (hn : n < 1000000000) : Calls Try.prog 15 #[.pointer (some ⟨p, 0, none⟩), .int .i64 (2 * (n : Int) + 1)] w (TreeEnd N w0 p l t ds bs [imm n] φ (.tuple #[])) := by
  obtain ⟨A, h1, h2⟩ := h
  refine (mine_push h2 (by rw [h1.st]; simp) (r := imm n) (ok_imm (by omega) (by omega)) rfl rfl).mono ?_
  rintro e w' ⟨he, hM⟩
  exact ⟨he, _, h1.push _, hM⟩
theorem tree_top1 {r : Ref} (h : AtTree N w0 p l t ds bs [r] φ w) : Calls Try.prog 21 #[.pointer (some ⟨p, 0, none⟩), .int .i64 1] w (TreeEnd N w0 p l t ds bs [r] φ (.int .i64 (word φ (obj t)))) := by
  obtain ⟨A, h1, h2⟩ := h
  have e : A.topI 1 = obj t := by unfold AH.topI AH.top; rw [if_pos (by omega), h1.st, if_pos (by simp)]; simp
  refine (h2.quiet (mine_top h2 1 (by rw [e]))).mono ?_
  rintro e w' ⟨he, hM⟩
  exact ⟨he, _, h1, hM⟩
theorem tree_top0 (h : AtTree N w0 p l t ds bs [] φ w) : Calls Try.prog 21 #[.pointer (some ⟨p, 0, none⟩), .int .i64 0] w fun e w' => e = .returned (.int .i64 (word φ (obj t))) ∧ ∃ n, w' = w.drewN n := by
  obtain ⟨A, h1, h2⟩ := h
  have e : A.topI 0 = obj t := by unfold AH.topI AH.top; rw [if_pos (by omega), h1.st, if_pos (by simp)]; simp
  exact mine_top h2 0 (by rw [e])
theorem AtTree.drewN (h : AtTree N w0 p l t ds bs rest φ w) (n : Nat) : AtTree N w0 p l t ds bs rest φ (w.drewN n) := by obtain ⟨A, h1, h⟩ := h; exact ⟨A, h1, h.drewN n⟩
theorem tree_push_top {r : Ref} (h : AtTree N w0 p l t ds bs [r] φ w) : Calls Try.prog 15 #[.pointer (some ⟨p, 0, none⟩), .int .i64 (word φ (obj t))] w (TreeEnd N w0 p l t ds bs [r, obj t] φ (.tuple #[])) := by
  obtain ⟨A, h1, h2⟩ := h
  refine (mine_push h2 (by rw [h1.st]; simp) (r := obj t) (h2.wf.ok_root (.inl (by rw [h1.st]; exact List.mem_cons_self ..))) rfl rfl).mono ?_
  rintro e w' ⟨he, hM⟩
  exact ⟨he, _, h1.push _, hM⟩
theorem tree_make {n : Int} (h : AtTree N w0 p l t ds bs [imm n, obj t] φ w) (hl : treeLive l ≤ 1000) : Calls Try.prog 16 #[.pointer (some ⟨p, 0, none⟩), .int .i64 6, .int .i64 2] w (TreeGEnd N w0 p l t ds bs (.int .i64 0)) := by
  obtain ⟨A, h1, h2⟩ := h
  have hlv := h1.live_le (g := []) (by simp) List.nodup_nil (fun r hr j hn => by
    rcases List.mem_cons.1 hr with e | hr
    · subst e; have := hn.1; cases this
    · rw [List.mem_singleton] at hr; subst hr; rw [← names_obj hn]; exact List.mem_append_right _ (List.mem_cons_self ..)) (by simp) h2.wf
  have e0 : total A [] = 0 := rfl
  refine (mine_makes h2 (by rw [h1.st]; simp) (by omega) 6 2 rfl rfl (by omega) (by rw [h1.st]; simp) (by rw [h1.lim]; omega) rfl).mono ?_
  rintro e w' ⟨he, φ', hM⟩
  obtain ⟨g1, g2, g3⟩ := h1.make 6
  exact ⟨he, _, φ', _, n, g1, g2, g3, hM⟩
theorem tree_raw (h : AtTreeG N w0 p l t ds bs w) (hl : treeLive l ≤ 1000) (s : ByteArray) (hs : s.size ≤ 1000) : Calls Try.prog 26 #[.pointer (some ⟨p, 0, none⟩), .int .i64 7, .string s] w (TreeGR N w0 p l t ds bs (.int .i64 0)) := by
  obtain ⟨A, φ, g, n, h1, hg, hng, h2⟩ := h
  have hlv := h1.live_le (g := [g]) (fun i hi => by rw [List.mem_singleton] at hi; exact hi ▸ hng) (by simp) (fun r hr j hn => by
      rw [List.mem_singleton] at hr; subst hr; rw [← names_obj hn]; exact List.mem_append_left _ (List.mem_cons_self ..)) (fun i hi r j he hn => by
      rw [List.mem_singleton] at hi; subst hi
      obtain ⟨o, q1, q2, q3⟩ := he
      rw [hg] at q1; cases q1
      rcases List.mem_cons.1 q3 with e | q3
      · subst e; have := hn.1; cases this
      · rw [List.mem_singleton] at q3; subst q3; rw [← names_obj hn]; exact List.mem_append_right _ (List.mem_cons_self ..)) h2.wf
  have e0 : total A [g] = 3 := by rw [total_one]; unfold sizeAt; rw [hg]; rfl
  refine (mine_raws h2 (by rw [h1.st]; simp) (by omega) 7 s rfl (by omega) (by omega) (by rw [h1.lim]; omega) rfl).mono ?_
  rintro e w' ⟨he, φ', hM⟩
  exact ⟨he, φ', _, _, _, h1.raw 7 _, hM⟩
theorem tree_drop {r1 r2 : Ref} (h : AtTree N w0 p l t ds bs [r1, r2] φ w) : Calls Try.prog 17 #[.pointer (some ⟨p, 0, none⟩), .int .i64 2] w (TreeEnd N w0 p l t ds bs [] φ (.tuple #[])) := by
  obtain ⟨A, h1, h2⟩ := h
  refine (mine_drop h2 2 rfl).mono ?_
  rintro e w' ⟨he, hM⟩
  exact ⟨he, _, h1.drop, hM⟩
theorem tree_height (h : AtTree N w0 p l t ds bs [] φ w) : Calls Try.prog 19 #[.pointer (some ⟨p, 0, none⟩)] w fun e w' => e = .returned (.int .i64 1) ∧ w = w' := by
  obtain ⟨A, h1, h2⟩ := h
  exact mine_height h2 (by rw [h1.st]; rfl)
theorem tree_ok {A : AH} (h : TreeIs A 3000 l t ds bs rest) {i : Nat} (hi : i ∈ t :: (ds ++ bs)) : A.Ok (obj i) := by
  have := h.reach i hi
  unfold AH.Ok
  rw [if_pos (show (obj i).obj = true from rfl)]
  exact ⟨i, rfl, this⟩
theorem fields_obj {A : AH} {i : Nat} {o : Ob} (h : A.objs[i]? = some o) : A.fields (obj i) = o.fields := by
  unfold AH.fields; rw [if_pos (show (obj i).obj = true from rfl), obj_ix, h]; rfl
theorem tree_size (h : AtTree N w0 p l t ds bs [] φ w) {v : Int} (hv : v = (l.length : Nat)) : Calls Try.prog 29 #[.pointer (some ⟨p, 0, none⟩), .int .i64 (word φ (obj t))] w fun e w' => e = .returned (.int .i64 v) ∧ ∃ n, w' = w.drewN n := by
  obtain ⟨A, h1, h2⟩ := h
  refine mine_size h2 (r := obj t) (tree_ok h1 (List.mem_cons_self ..)) rfl ?_
  unfold AH.sizeOf
  rw [fields_obj h1.tp, hv]; simp [objs, h1.lv.len.1]

/-- TItem j of the tree, in the objects d and b. -/
def AtItem (N : Nat) (w0 : World) (p : Nat) (l : List TItem) (t : Nat) (ds bs : List Nat) (φ : Nat → Nat) (it : TItem) (d b : Nat) (w : World) : Prop :=
  ∃ A, TreeIs A 3000 l t ds bs [] ∧ d ∈ ds ∧ b ∈ bs ∧ A.objs[d]? = some ⟨it.k, false, [imm it.n, obj b], []⟩ ∧ A.objs[b]? = some ⟨1, true, [], it.s⟩ ∧ Mine N w0 p A φ 0 w
theorem tree_field (h : AtTree N w0 p l t ds bs [] φ w) {j : Nat} {it : TItem} (hj : l[j]? = some it) {J : Int} (hJ : J = j) : Calls Try.prog 25 #[.pointer (some ⟨p, 0, none⟩), .int .i64 (word φ (obj t)), .int .i64 J] w fun e w' => ∃ d b, e = .returned (.int .i64 (word φ (obj d))) ∧ AtItem N w0 p l t ds bs φ it d b w' := by
  subst hJ
  obtain ⟨A, h1, h2⟩ := h
  obtain ⟨d, b, g1, g2, g3, g4⟩ := h1.lv.get hj
  have e : A.fieldI (obj t) j = obj d := by
    unfold AH.fieldI AH.field
    rw [if_pos (by omega), fields_obj h1.tp, Int.toNat_natCast]
    simp [objs, g1]
  refine (h2.quiet (mine_field h2 (r := obj t) (tree_ok h1 (List.mem_cons_self ..)) rfl j (by rw [e]))).mono ?_
  rintro e w' ⟨he, hM⟩
  exact ⟨d, b, he, A, h1, List.mem_of_getElem? g1, List.mem_of_getElem? g2, g3, g4, hM⟩
variable {it : TItem} {d b : Nat}
theorem AtItem.below (h : AtItem N w0 p l t ds bs φ it d b w) : Below N w0 w := by obtain ⟨A, _, _, _, _, _, h⟩ := h; exact h.below
theorem AtItem.drewN (h : AtItem N w0 p l t ds bs φ it d b w) (n : Nat) : AtItem N w0 p l t ds bs φ it d b (w.drewN n) := by obtain ⟨A, h1, h2, h3, h4, h5, h⟩ := h; exact ⟨A, h1, h2, h3, h4, h5, h.drewN n⟩
theorem AtItem.later {w' : World} (h : AtItem N w0 p l t ds bs φ it d b w) (hb : Below w.heap.size w w') : AtItem N w0 p l t ds bs φ it d b w' := by obtain ⟨A, h1, h2, h3, h4, h5, h⟩ := h; exact ⟨A, h1, h2, h3, h4, h5, h.later hb⟩
theorem AtItem.tree (h : AtItem N w0 p l t ds bs φ it d b w) : AtTree N w0 p l t ds bs [] φ w := by obtain ⟨A, h1, h2, h3, h4, h5, h⟩ := h; exact ⟨A, h1, h⟩
theorem item_kind (h : AtItem N w0 p l t ds bs φ it d b w) {v : Int} (hv : v = it.k) : Calls Try.prog 28 #[.pointer (some ⟨p, 0, none⟩), .int .i64 (word φ (obj d))] w fun e w' => e = .returned (.int .i64 v) ∧ ∃ n, w' = w.drewN n := by
  obtain ⟨A, h1, h2, h3, h4, h5, hM⟩ := h
  refine mine_kind hM (r := obj d) (tree_ok h1 (List.mem_cons_of_mem _ (List.mem_append_left _ h2))) rfl ?_
  unfold AH.kindOf; rw [if_pos (show (obj d).obj = true from rfl), obj_ix, h4, hv]; rfl
theorem item_f0 (h : AtItem N w0 p l t ds bs φ it d b w) {v : Int} (hv : 2 * it.n + 1 = v) : Calls Try.prog 25 #[.pointer (some ⟨p, 0, none⟩), .int .i64 (word φ (obj d)), .int .i64 0] w fun e w' => e = .returned (.int .i64 v) ∧ ∃ n, w' = w.drewN n := by
  subst hv
  obtain ⟨A, h1, h2, h3, h4, h5, hM⟩ := h
  refine mine_field hM (r := obj d) (tree_ok h1 (List.mem_cons_of_mem _ (List.mem_append_left _ h2))) rfl 0 ?_
  unfold AH.fieldI AH.field; rw [if_pos (by omega), fields_obj h4]; rfl
theorem item_f1 (h : AtItem N w0 p l t ds bs φ it d b w) : Calls Try.prog 25 #[.pointer (some ⟨p, 0, none⟩), .int .i64 (word φ (obj d)), .int .i64 1] w fun e w' => e = .returned (.int .i64 (word φ (obj b))) ∧ ∃ n, w' = w.drewN n := by
  obtain ⟨A, h1, h2, h3, h4, h5, hM⟩ := h
  refine mine_field hM (r := obj d) (tree_ok h1 (List.mem_cons_of_mem _ (List.mem_append_left _ h2))) rfl 1 ?_
  unfold AH.fieldI AH.field; rw [if_pos (by omega), fields_obj h4]; rfl
theorem item_bytes (h : AtItem N w0 p l t ds bs φ it d b w) {s : ByteArray} (hs : s.data.toList = it.s) : Calls Try.prog 30 #[.pointer (some ⟨p, 0, none⟩), .int .i64 (word φ (obj b))] w fun e w' => e = .returned (.string s) ∧ Below w.heap.size w w' := by
  obtain ⟨A, h1, h2, h3, h4, h5, hM⟩ := h
  refine rows_bytes hM.rows (r := obj b) (tree_ok h1 (List.mem_cons_of_mem _ (List.mem_append_right _ h3))) rfl ?_
  unfold AH.bytesOf; rw [if_pos (show (obj b).obj = true from rfl), obj_ix, h5]
  simp [← hs]
end
end Go.Proofs.Ytlbiapgikkjooaa
