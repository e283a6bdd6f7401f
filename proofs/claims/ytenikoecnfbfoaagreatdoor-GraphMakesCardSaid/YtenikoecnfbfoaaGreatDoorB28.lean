/- Texts of the proof, in build order: GrS6, GrBfs, GrOcs, GrFew, GrFew2, GrRDir. -/
import Derived.Test.YtenikoecnfbfoaaGreatDoorB26
import Derived.Test.YtenikoecnfbfoaaGreatDoorB02
import Derived.Test.YtenikoecnfbfoaaGreatDoorB27
import Derived.Test.YtenikoecnfbfoaaGreatDoorB14
import Derived.Deep.RegionHeld3
/- Layer 8: the program's sorted: is a root so? The region, over letters. -/
namespace Go.Proofs.YtenikoecnfbfoaaGreatDoor
open Go.RowKit
set_option linter.unusedVariables false
set_option linter.unusedSimpArgs false
open Gr (RT)
noncomputable def sreg6 : Code := ((Tryz.f26.body.bind (regG 6)).getD .skip)
/-- What the region finds. -/
def bad6 (name typ : ByteArray) (id : Int) (i : Nat) (x : ByteArray) : Bool :=
  name.toList.isEmpty || decide ((40 : Int) < (name.size : Int)) || decide ((1000 : Int) < (typ.size : Int)) || decide (id < 1) || decide (1099511627776 < id) || (decide (0 < i) && name.toList == x.toList)
set_option maxRecDepth 100000 in
set_option maxHeartbeats 8000000 in
theorem s6_1 {K : Exit → Act → World → Prop} {W : World} {Br b off ln cap i : Nat} {name typ x : ByteArray} {id : Int} {u1 u2 u3 u6 u7 u8 u9 u10 u11 u12 u13 u14 u15 u16 u17 u18 u19 u20 u21 u22 u23 u24 u25 u26 u27 u28 u29 u30 u31 u32 u33 u34 u35 u36 u37 u38 u39 u40 u41 u42 u43 u44 u45 u46 u47 u48 u49 u50 u51 u52 u53 u54 u55 u56 u57 u58 : Value}
    (y0 : W.cell? ⟨Br, 0, none⟩ = some (.string name)) (y1 : W.cell? ⟨Br, 1, none⟩ = some (.string typ)) (y2 : W.cell? ⟨Br, 2, none⟩ = some (.int .i64 id)) (e1 : name.toList.isEmpty = true)
    (hgo : ∀ (v17 v18 v19 v20 v21 v22 v23 v24 v25 v26 v27 v28 v29 v30 v31 v32 v33 v34 v35 v36 v37 v38 v39 v40 v41 v42 v43 v44 v45 v46 v47 v48 v49 v50 v51 v52 v53 v54 v55 : Value) (B : Bool), B = true → K .normal { tmps := #[.slice (some ⟨b, off, none⟩) ln cap, u1, u2, u3, .int .i64 (i : Int), .pointer (some ⟨Br, 0, none⟩), u6, u7, u8, u9, u10, u11, u12, u13, u14, u15, u16, v17, v18, v19, v20, v21, v22, v23, v24, v25, v26, v27, v28, v29, v30, v31, v32, v33, v34, v35, v36, v37, v38, v39, v40, v41, v42, v43, v44, v45, v46, v47, v48, v49, v50, v51, v52, v53, v54, v55, .bool B, u57, u58], defers := [] } W.drew) :
    Code.wp Tryz.prog sreg6 K { tmps := #[.slice (some ⟨b, off, none⟩) ln cap, u1, u2, u3, .int .i64 (i : Int), .pointer (some ⟨Br, 0, none⟩), u6, u7, u8, u9, u10, u11, u12, u13, u14, u15, u16, u17, u18, u19, u20, u21, u22, u23, u24, u25, u26, u27, u28, u29, u30, u31, u32, u33, u34, u35, u36, u37, u38, u39, u40, u41, u42, u43, u44, u45, u46, u47, u48, u49, u50, u51, u52, u53, u54, u55, u56, u57, u58], defers := [] } W := by
  conv => arg 2; whnf
  refine still_abs 39 (by kernel_rfl) (by kernel_rfl) (fun X hX => ?_)
  have x3 := hX 3 20 rfl
  have x9 := hX 9 26 rfl
  have x15 := hX 15 32 rfl
  have x20 := hX 20 37 rfl
  have x25 := hX 25 42 rfl
  have x28 := hX 28 45 rfl
  clear hX
  have HGO := Lib.hid hgo
  clear hgo
  simp only [List.take_succ_cons, List.take_zero, List.drop_succ_cons, List.drop_zero]
  refine st_plain rfl (fun K hK => ?_); go_simp; refine hK _ ?_; clear hK K
  refine st_plain rfl (fun K hK => ?_); go_simp; refine hK _ ?_; clear hK K
  refine st_plain rfl (fun K hK => ?_); go_simp; refine hK _ ?_; clear hK K
  refine st_plain rfl (fun K hK => ?_); go_simp; refine hK _ ?_; clear hK K
  refine st_skip rfl x3 rfl rfl (fun K hK => ?_); simp only [Act.put, List.setIfInBounds_toArray, List.set_cons_zero, List.set_cons_succ]; refine hK _ ?_; clear hK K
  refine st_skip rfl x3 rfl rfl (fun K hK => ?_); simp only [Act.put, List.setIfInBounds_toArray, List.set_cons_zero, List.set_cons_succ]; refine hK _ ?_; clear hK K
  refine st_skip rfl x3 rfl rfl (fun K hK => ?_); simp only [Act.put, List.setIfInBounds_toArray, List.set_cons_zero, List.set_cons_succ]; refine hK _ ?_; clear hK K
  refine st_skip rfl x3 rfl rfl (fun K hK => ?_); simp only [Act.put, List.setIfInBounds_toArray, List.set_cons_zero, List.set_cons_succ]; refine hK _ ?_; clear hK K
  refine st_plain rfl (fun K hK => ?_); go_simp; refine hK _ ?_; clear hK K
  refine st_plain rfl (fun K hK => ?_); go_simp; refine hK _ ?_; clear hK K
  refine st_skip rfl x9 rfl rfl (fun K hK => ?_); simp only [Act.put, List.setIfInBounds_toArray, List.set_cons_zero, List.set_cons_succ]; refine hK _ ?_; clear hK K
  refine st_skip rfl x9 rfl rfl (fun K hK => ?_); simp only [Act.put, List.setIfInBounds_toArray, List.set_cons_zero, List.set_cons_succ]; refine hK _ ?_; clear hK K
  refine st_skip rfl x9 rfl rfl (fun K hK => ?_); simp only [Act.put, List.setIfInBounds_toArray, List.set_cons_zero, List.set_cons_succ]; refine hK _ ?_; clear hK K
  refine st_skip rfl x9 rfl rfl (fun K hK => ?_); simp only [Act.put, List.setIfInBounds_toArray, List.set_cons_zero, List.set_cons_succ]; refine hK _ ?_; clear hK K
  refine st_plain rfl (fun K hK => ?_); go_simp; refine hK _ ?_; clear hK K
  refine st_plain rfl (fun K hK => ?_); go_simp; refine hK _ ?_; clear hK K
  refine st_skip rfl x15 rfl rfl (fun K hK => ?_); simp only [Act.put, List.setIfInBounds_toArray, List.set_cons_zero, List.set_cons_succ]; refine hK _ ?_; clear hK K
  refine st_skip rfl x15 rfl rfl (fun K hK => ?_); simp only [Act.put, List.setIfInBounds_toArray, List.set_cons_zero, List.set_cons_succ]; refine hK _ ?_; clear hK K
  refine st_skip rfl x15 rfl rfl (fun K hK => ?_); simp only [Act.put, List.setIfInBounds_toArray, List.set_cons_zero, List.set_cons_succ]; refine hK _ ?_; clear hK K
  refine st_plain rfl (fun K hK => ?_); go_simp; refine hK _ ?_; clear hK K
  refine st_plain rfl (fun K hK => ?_); go_simp; refine hK _ ?_; clear hK K
  refine st_skip rfl x20 rfl rfl (fun K hK => ?_); simp only [Act.put, List.setIfInBounds_toArray, List.set_cons_zero, List.set_cons_succ]; refine hK _ ?_; clear hK K
  refine st_skip rfl x20 rfl rfl (fun K hK => ?_); simp only [Act.put, List.setIfInBounds_toArray, List.set_cons_zero, List.set_cons_succ]; refine hK _ ?_; clear hK K
  refine st_skip rfl x20 rfl rfl (fun K hK => ?_); simp only [Act.put, List.setIfInBounds_toArray, List.set_cons_zero, List.set_cons_succ]; refine hK _ ?_; clear hK K
  refine st_plain rfl (fun K hK => ?_); go_simp; refine hK _ ?_; clear hK K
  refine st_plain rfl (fun K hK => ?_); go_simp; refine hK _ ?_; clear hK K
  refine st_skip rfl x25 rfl rfl (fun K hK => ?_); simp only [Act.put, List.setIfInBounds_toArray, List.set_cons_zero, List.set_cons_succ]; refine hK _ ?_; clear hK K
  refine st_skip rfl x25 rfl rfl (fun K hK => ?_); simp only [Act.put, List.setIfInBounds_toArray, List.set_cons_zero, List.set_cons_succ]; refine hK _ ?_; clear hK K
  refine st_skip rfl x25 rfl rfl (fun K hK => ?_); simp only [Act.put, List.setIfInBounds_toArray, List.set_cons_zero, List.set_cons_succ]; refine hK _ ?_; clear hK K
  refine st_skip rfl x28 rfl rfl (fun K hK => ?_); simp only [Act.put, List.setIfInBounds_toArray, List.set_cons_zero, List.set_cons_succ]; refine hK _ ?_; clear hK K
  refine st_skip rfl x28 rfl rfl (fun K hK => ?_); simp only [Act.put, List.setIfInBounds_toArray, List.set_cons_zero, List.set_cons_succ]; refine hK _ ?_; clear hK K
  refine st_skip rfl x28 rfl rfl (fun K hK => ?_); simp only [Act.put, List.setIfInBounds_toArray, List.set_cons_zero, List.set_cons_succ]; refine hK _ ?_; clear hK K
  refine st_skip rfl x28 rfl rfl (fun K hK => ?_); simp only [Act.put, List.setIfInBounds_toArray, List.set_cons_zero, List.set_cons_succ]; refine hK _ ?_; clear hK K
  refine st_skip rfl x28 rfl rfl (fun K hK => ?_); simp only [Act.put, List.setIfInBounds_toArray, List.set_cons_zero, List.set_cons_succ]; refine hK _ ?_; clear hK K
  refine st_skip rfl x28 rfl rfl (fun K hK => ?_); simp only [Act.put, List.setIfInBounds_toArray, List.set_cons_zero, List.set_cons_succ]; refine hK _ ?_; clear hK K
  refine st_skip rfl x28 rfl rfl (fun K hK => ?_); simp only [Act.put, List.setIfInBounds_toArray, List.set_cons_zero, List.set_cons_succ]; refine hK _ ?_; clear hK K
  refine st_skip rfl x28 rfl rfl (fun K hK => ?_); simp only [Act.put, List.setIfInBounds_toArray, List.set_cons_zero, List.set_cons_succ]; refine hK _ ?_; clear hK K
  refine st_skip rfl x28 rfl rfl (fun K hK => ?_); simp only [Act.put, List.setIfInBounds_toArray, List.set_cons_zero, List.set_cons_succ]; refine hK _ ?_; clear hK K
  refine st_skip rfl x25 rfl rfl (fun K hK => ?_); simp only [Act.put, List.setIfInBounds_toArray, List.set_cons_zero, List.set_cons_succ]; refine hK _ ?_; clear hK K
  refine wpStill_nil ?_
  go_wp2
  exact HGO.out _ _ _ _ _ _ _ _ _ _ _ _ _ _ _ _ _ _ _ _ _ _ _ _ _ _ _ _ _ _ _ _ _ _ _ _ _ _ _ _ rfl
set_option maxRecDepth 100000 in
set_option maxHeartbeats 8000000 in
theorem s6_2 {K : Exit → Act → World → Prop} {W : World} {Br b off ln cap i : Nat} {name typ x : ByteArray} {id : Int} {u1 u2 u3 u6 u7 u8 u9 u10 u11 u12 u13 u14 u15 u16 u17 u18 u19 u20 u21 u22 u23 u24 u25 u26 u27 u28 u29 u30 u31 u32 u33 u34 u35 u36 u37 u38 u39 u40 u41 u42 u43 u44 u45 u46 u47 u48 u49 u50 u51 u52 u53 u54 u55 u56 u57 u58 : Value}
    (y0 : W.cell? ⟨Br, 0, none⟩ = some (.string name)) (y1 : W.cell? ⟨Br, 1, none⟩ = some (.string typ)) (y2 : W.cell? ⟨Br, 2, none⟩ = some (.int .i64 id)) (e1 : name.toList.isEmpty = false) (d2 : (40 : Int) < (name.size : Int))
    (hgo : ∀ (v17 v18 v19 v20 v21 v22 v23 v24 v25 v26 v27 v28 v29 v30 v31 v32 v33 v34 v35 v36 v37 v38 v39 v40 v41 v42 v43 v44 v45 v46 v47 v48 v49 v50 v51 v52 v53 v54 v55 : Value) (B : Bool), B = true → K .normal { tmps := #[.slice (some ⟨b, off, none⟩) ln cap, u1, u2, u3, .int .i64 (i : Int), .pointer (some ⟨Br, 0, none⟩), u6, u7, u8, u9, u10, u11, u12, u13, u14, u15, u16, v17, v18, v19, v20, v21, v22, v23, v24, v25, v26, v27, v28, v29, v30, v31, v32, v33, v34, v35, v36, v37, v38, v39, v40, v41, v42, v43, v44, v45, v46, v47, v48, v49, v50, v51, v52, v53, v54, v55, .bool B, u57, u58], defers := [] } W.drew) :
    Code.wp Tryz.prog sreg6 K { tmps := #[.slice (some ⟨b, off, none⟩) ln cap, u1, u2, u3, .int .i64 (i : Int), .pointer (some ⟨Br, 0, none⟩), u6, u7, u8, u9, u10, u11, u12, u13, u14, u15, u16, u17, u18, u19, u20, u21, u22, u23, u24, u25, u26, u27, u28, u29, u30, u31, u32, u33, u34, u35, u36, u37, u38, u39, u40, u41, u42, u43, u44, u45, u46, u47, u48, u49, u50, u51, u52, u53, u54, u55, u56, u57, u58], defers := [] } W := by
  conv => arg 2; whnf
  refine still_abs 39 (by kernel_rfl) (by kernel_rfl) (fun X hX => ?_)
  have x3 := hX 3 20 rfl
  have x9 := hX 9 26 rfl
  have x15 := hX 15 32 rfl
  have x20 := hX 20 37 rfl
  have x25 := hX 25 42 rfl
  have x28 := hX 28 45 rfl
  clear hX
  have HGO := Lib.hid hgo
  clear hgo
  simp only [List.take_succ_cons, List.take_zero, List.drop_succ_cons, List.drop_zero]
  refine st_plain rfl (fun K hK => ?_); go_simp; refine hK _ ?_; clear hK K
  refine st_plain rfl (fun K hK => ?_); go_simp; refine hK _ ?_; clear hK K
  refine st_plain rfl (fun K hK => ?_); go_simp; refine hK _ ?_; clear hK K
  refine st_plain rfl (fun K hK => ?_); go_simp; refine hK _ ?_; clear hK K
  refine st_want rfl x3 rfl (fun K hK => ?_); go_simp; refine hK _ ?_; clear hK K
  refine st_want rfl x3 rfl (fun K hK => ?_); go_simp; refine hK _ ?_; clear hK K
  refine st_want rfl x3 rfl (fun K hK => ?_); go_simp; refine hK _ ?_; clear hK K
  refine st_want rfl x3 rfl (fun K hK => ?_); go_simp; refine hK _ ?_; clear hK K
  refine st_plain rfl (fun K hK => ?_); go_simp; refine hK _ ?_; clear hK K
  refine st_plain rfl (fun K hK => ?_); go_simp; refine hK _ ?_; clear hK K
  refine st_skip rfl x9 rfl rfl (fun K hK => ?_); simp only [Act.put, List.setIfInBounds_toArray, List.set_cons_zero, List.set_cons_succ]; refine hK _ ?_; clear hK K
  refine st_skip rfl x9 rfl rfl (fun K hK => ?_); simp only [Act.put, List.setIfInBounds_toArray, List.set_cons_zero, List.set_cons_succ]; refine hK _ ?_; clear hK K
  refine st_skip rfl x9 rfl rfl (fun K hK => ?_); simp only [Act.put, List.setIfInBounds_toArray, List.set_cons_zero, List.set_cons_succ]; refine hK _ ?_; clear hK K
  refine st_skip rfl x9 rfl rfl (fun K hK => ?_); simp only [Act.put, List.setIfInBounds_toArray, List.set_cons_zero, List.set_cons_succ]; refine hK _ ?_; clear hK K
  refine st_plain rfl (fun K hK => ?_); go_simp; refine hK _ ?_; clear hK K
  refine st_plain rfl (fun K hK => ?_); go_simp; refine hK _ ?_; clear hK K
  refine st_skip rfl x15 rfl rfl (fun K hK => ?_); simp only [Act.put, List.setIfInBounds_toArray, List.set_cons_zero, List.set_cons_succ]; refine hK _ ?_; clear hK K
  refine st_skip rfl x15 rfl rfl (fun K hK => ?_); simp only [Act.put, List.setIfInBounds_toArray, List.set_cons_zero, List.set_cons_succ]; refine hK _ ?_; clear hK K
  refine st_skip rfl x15 rfl rfl (fun K hK => ?_); simp only [Act.put, List.setIfInBounds_toArray, List.set_cons_zero, List.set_cons_succ]; refine hK _ ?_; clear hK K
  refine st_plain rfl (fun K hK => ?_); go_simp; refine hK _ ?_; clear hK K
  refine st_plain rfl (fun K hK => ?_); go_simp; refine hK _ ?_; clear hK K
  refine st_skip rfl x20 rfl rfl (fun K hK => ?_); simp only [Act.put, List.setIfInBounds_toArray, List.set_cons_zero, List.set_cons_succ]; refine hK _ ?_; clear hK K
  refine st_skip rfl x20 rfl rfl (fun K hK => ?_); simp only [Act.put, List.setIfInBounds_toArray, List.set_cons_zero, List.set_cons_succ]; refine hK _ ?_; clear hK K
  refine st_skip rfl x20 rfl rfl (fun K hK => ?_); simp only [Act.put, List.setIfInBounds_toArray, List.set_cons_zero, List.set_cons_succ]; refine hK _ ?_; clear hK K
  refine st_plain rfl (fun K hK => ?_); go_simp; refine hK _ ?_; clear hK K
  refine st_plain rfl (fun K hK => ?_); go_simp; refine hK _ ?_; clear hK K
  refine st_skip rfl x25 rfl rfl (fun K hK => ?_); simp only [Act.put, List.setIfInBounds_toArray, List.set_cons_zero, List.set_cons_succ]; refine hK _ ?_; clear hK K
  refine st_skip rfl x25 rfl rfl (fun K hK => ?_); simp only [Act.put, List.setIfInBounds_toArray, List.set_cons_zero, List.set_cons_succ]; refine hK _ ?_; clear hK K
  refine st_skip rfl x25 rfl rfl (fun K hK => ?_); simp only [Act.put, List.setIfInBounds_toArray, List.set_cons_zero, List.set_cons_succ]; refine hK _ ?_; clear hK K
  refine st_skip rfl x28 rfl rfl (fun K hK => ?_); simp only [Act.put, List.setIfInBounds_toArray, List.set_cons_zero, List.set_cons_succ]; refine hK _ ?_; clear hK K
  refine st_skip rfl x28 rfl rfl (fun K hK => ?_); simp only [Act.put, List.setIfInBounds_toArray, List.set_cons_zero, List.set_cons_succ]; refine hK _ ?_; clear hK K
  refine st_skip rfl x28 rfl rfl (fun K hK => ?_); simp only [Act.put, List.setIfInBounds_toArray, List.set_cons_zero, List.set_cons_succ]; refine hK _ ?_; clear hK K
  refine st_skip rfl x28 rfl rfl (fun K hK => ?_); simp only [Act.put, List.setIfInBounds_toArray, List.set_cons_zero, List.set_cons_succ]; refine hK _ ?_; clear hK K
  refine st_skip rfl x28 rfl rfl (fun K hK => ?_); simp only [Act.put, List.setIfInBounds_toArray, List.set_cons_zero, List.set_cons_succ]; refine hK _ ?_; clear hK K
  refine st_skip rfl x28 rfl rfl (fun K hK => ?_); simp only [Act.put, List.setIfInBounds_toArray, List.set_cons_zero, List.set_cons_succ]; refine hK _ ?_; clear hK K
  refine st_skip rfl x28 rfl rfl (fun K hK => ?_); simp only [Act.put, List.setIfInBounds_toArray, List.set_cons_zero, List.set_cons_succ]; refine hK _ ?_; clear hK K
  refine st_skip rfl x28 rfl rfl (fun K hK => ?_); simp only [Act.put, List.setIfInBounds_toArray, List.set_cons_zero, List.set_cons_succ]; refine hK _ ?_; clear hK K
  refine st_skip rfl x28 rfl rfl (fun K hK => ?_); simp only [Act.put, List.setIfInBounds_toArray, List.set_cons_zero, List.set_cons_succ]; refine hK _ ?_; clear hK K
  refine st_skip rfl x25 rfl rfl (fun K hK => ?_); simp only [Act.put, List.setIfInBounds_toArray, List.set_cons_zero, List.set_cons_succ]; refine hK _ ?_; clear hK K
  refine wpStill_nil ?_
  go_wp2
  exact HGO.out _ _ _ _ _ _ _ _ _ _ _ _ _ _ _ _ _ _ _ _ _ _ _ _ _ _ _ _ _ _ _ _ _ _ _ _ _ _ _ _ rfl
set_option maxRecDepth 100000 in
set_option maxHeartbeats 8000000 in
theorem s6_3 {K : Exit → Act → World → Prop} {W : World} {Br b off ln cap i : Nat} {name typ x : ByteArray} {id : Int} {u1 u2 u3 u6 u7 u8 u9 u10 u11 u12 u13 u14 u15 u16 u17 u18 u19 u20 u21 u22 u23 u24 u25 u26 u27 u28 u29 u30 u31 u32 u33 u34 u35 u36 u37 u38 u39 u40 u41 u42 u43 u44 u45 u46 u47 u48 u49 u50 u51 u52 u53 u54 u55 u56 u57 u58 : Value}
    (y0 : W.cell? ⟨Br, 0, none⟩ = some (.string name)) (y1 : W.cell? ⟨Br, 1, none⟩ = some (.string typ)) (y2 : W.cell? ⟨Br, 2, none⟩ = some (.int .i64 id)) (e1 : name.toList.isEmpty = false) (d2 : ¬ (40 : Int) < (name.size : Int)) (d3 : (1000 : Int) < (typ.size : Int))
    (hgo : ∀ (v17 v18 v19 v20 v21 v22 v23 v24 v25 v26 v27 v28 v29 v30 v31 v32 v33 v34 v35 v36 v37 v38 v39 v40 v41 v42 v43 v44 v45 v46 v47 v48 v49 v50 v51 v52 v53 v54 v55 : Value) (B : Bool), B = true → K .normal { tmps := #[.slice (some ⟨b, off, none⟩) ln cap, u1, u2, u3, .int .i64 (i : Int), .pointer (some ⟨Br, 0, none⟩), u6, u7, u8, u9, u10, u11, u12, u13, u14, u15, u16, v17, v18, v19, v20, v21, v22, v23, v24, v25, v26, v27, v28, v29, v30, v31, v32, v33, v34, v35, v36, v37, v38, v39, v40, v41, v42, v43, v44, v45, v46, v47, v48, v49, v50, v51, v52, v53, v54, v55, .bool B, u57, u58], defers := [] } W.drew) :
    Code.wp Tryz.prog sreg6 K { tmps := #[.slice (some ⟨b, off, none⟩) ln cap, u1, u2, u3, .int .i64 (i : Int), .pointer (some ⟨Br, 0, none⟩), u6, u7, u8, u9, u10, u11, u12, u13, u14, u15, u16, u17, u18, u19, u20, u21, u22, u23, u24, u25, u26, u27, u28, u29, u30, u31, u32, u33, u34, u35, u36, u37, u38, u39, u40, u41, u42, u43, u44, u45, u46, u47, u48, u49, u50, u51, u52, u53, u54, u55, u56, u57, u58], defers := [] } W := by
  conv => arg 2; whnf
  refine still_abs 39 (by kernel_rfl) (by kernel_rfl) (fun X hX => ?_)
  have x3 := hX 3 20 rfl
  have x9 := hX 9 26 rfl
  have x15 := hX 15 32 rfl
  have x20 := hX 20 37 rfl
  have x25 := hX 25 42 rfl
  have x28 := hX 28 45 rfl
  clear hX
  have q2 := decide_eq_false d2
  have HGO := Lib.hid hgo
  clear hgo
  simp only [List.take_succ_cons, List.take_zero, List.drop_succ_cons, List.drop_zero]
  refine st_plain rfl (fun K hK => ?_); go_simp; refine hK _ ?_; clear hK K
  refine st_plain rfl (fun K hK => ?_); go_simp; refine hK _ ?_; clear hK K
  refine st_plain rfl (fun K hK => ?_); go_simp; refine hK _ ?_; clear hK K
  refine st_plain rfl (fun K hK => ?_); go_simp; refine hK _ ?_; clear hK K
  refine st_want rfl x3 rfl (fun K hK => ?_); go_simp; refine hK _ ?_; clear hK K
  refine st_want rfl x3 rfl (fun K hK => ?_); go_simp; refine hK _ ?_; clear hK K
  refine st_want rfl x3 rfl (fun K hK => ?_); go_simp; refine hK _ ?_; clear hK K
  refine st_want rfl x3 rfl (fun K hK => ?_); go_simp; refine hK _ ?_; clear hK K
  refine st_plain rfl (fun K hK => ?_); go_simp; refine hK _ ?_; clear hK K
  refine st_plain rfl (fun K hK => ?_); go_simp; refine hK _ ?_; clear hK K
  refine st_want rfl x9 rfl (fun K hK => ?_); go_simp; refine hK _ ?_; clear hK K
  refine st_want rfl x9 rfl (fun K hK => ?_); go_simp; refine hK _ ?_; clear hK K
  refine st_want rfl x9 rfl (fun K hK => ?_); go_simp; refine hK _ ?_; clear hK K
  refine st_want rfl x9 rfl (fun K hK => ?_); go_simp; refine hK _ ?_; clear hK K
  refine st_plain rfl (fun K hK => ?_); go_simp; refine hK _ ?_; clear hK K
  refine st_plain rfl (fun K hK => ?_); go_simp; refine hK _ ?_; clear hK K
  refine st_skip rfl x15 rfl rfl (fun K hK => ?_); simp only [Act.put, List.setIfInBounds_toArray, List.set_cons_zero, List.set_cons_succ]; refine hK _ ?_; clear hK K
  refine st_skip rfl x15 rfl rfl (fun K hK => ?_); simp only [Act.put, List.setIfInBounds_toArray, List.set_cons_zero, List.set_cons_succ]; refine hK _ ?_; clear hK K
  refine st_skip rfl x15 rfl rfl (fun K hK => ?_); simp only [Act.put, List.setIfInBounds_toArray, List.set_cons_zero, List.set_cons_succ]; refine hK _ ?_; clear hK K
  refine st_plain rfl (fun K hK => ?_); go_simp; refine hK _ ?_; clear hK K
  refine st_plain rfl (fun K hK => ?_); go_simp; refine hK _ ?_; clear hK K
  refine st_skip rfl x20 rfl rfl (fun K hK => ?_); simp only [Act.put, List.setIfInBounds_toArray, List.set_cons_zero, List.set_cons_succ]; refine hK _ ?_; clear hK K
  refine st_skip rfl x20 rfl rfl (fun K hK => ?_); simp only [Act.put, List.setIfInBounds_toArray, List.set_cons_zero, List.set_cons_succ]; refine hK _ ?_; clear hK K
  refine st_skip rfl x20 rfl rfl (fun K hK => ?_); simp only [Act.put, List.setIfInBounds_toArray, List.set_cons_zero, List.set_cons_succ]; refine hK _ ?_; clear hK K
  refine st_plain rfl (fun K hK => ?_); go_simp; refine hK _ ?_; clear hK K
  refine st_plain rfl (fun K hK => ?_); go_simp; refine hK _ ?_; clear hK K
  refine st_skip rfl x25 rfl rfl (fun K hK => ?_); simp only [Act.put, List.setIfInBounds_toArray, List.set_cons_zero, List.set_cons_succ]; refine hK _ ?_; clear hK K
  refine st_skip rfl x25 rfl rfl (fun K hK => ?_); simp only [Act.put, List.setIfInBounds_toArray, List.set_cons_zero, List.set_cons_succ]; refine hK _ ?_; clear hK K
  refine st_skip rfl x25 rfl rfl (fun K hK => ?_); simp only [Act.put, List.setIfInBounds_toArray, List.set_cons_zero, List.set_cons_succ]; refine hK _ ?_; clear hK K
  refine st_skip rfl x28 rfl rfl (fun K hK => ?_); simp only [Act.put, List.setIfInBounds_toArray, List.set_cons_zero, List.set_cons_succ]; refine hK _ ?_; clear hK K
  refine st_skip rfl x28 rfl rfl (fun K hK => ?_); simp only [Act.put, List.setIfInBounds_toArray, List.set_cons_zero, List.set_cons_succ]; refine hK _ ?_; clear hK K
  refine st_skip rfl x28 rfl rfl (fun K hK => ?_); simp only [Act.put, List.setIfInBounds_toArray, List.set_cons_zero, List.set_cons_succ]; refine hK _ ?_; clear hK K
  refine st_skip rfl x28 rfl rfl (fun K hK => ?_); simp only [Act.put, List.setIfInBounds_toArray, List.set_cons_zero, List.set_cons_succ]; refine hK _ ?_; clear hK K
  refine st_skip rfl x28 rfl rfl (fun K hK => ?_); simp only [Act.put, List.setIfInBounds_toArray, List.set_cons_zero, List.set_cons_succ]; refine hK _ ?_; clear hK K
  refine st_skip rfl x28 rfl rfl (fun K hK => ?_); simp only [Act.put, List.setIfInBounds_toArray, List.set_cons_zero, List.set_cons_succ]; refine hK _ ?_; clear hK K
  refine st_skip rfl x28 rfl rfl (fun K hK => ?_); simp only [Act.put, List.setIfInBounds_toArray, List.set_cons_zero, List.set_cons_succ]; refine hK _ ?_; clear hK K
  refine st_skip rfl x28 rfl rfl (fun K hK => ?_); simp only [Act.put, List.setIfInBounds_toArray, List.set_cons_zero, List.set_cons_succ]; refine hK _ ?_; clear hK K
  refine st_skip rfl x28 rfl rfl (fun K hK => ?_); simp only [Act.put, List.setIfInBounds_toArray, List.set_cons_zero, List.set_cons_succ]; refine hK _ ?_; clear hK K
  refine st_skip rfl x25 rfl rfl (fun K hK => ?_); simp only [Act.put, List.setIfInBounds_toArray, List.set_cons_zero, List.set_cons_succ]; refine hK _ ?_; clear hK K
  refine wpStill_nil ?_
  go_wp2
  exact HGO.out _ _ _ _ _ _ _ _ _ _ _ _ _ _ _ _ _ _ _ _ _ _ _ _ _ _ _ _ _ _ _ _ _ _ _ _ _ _ _ _ rfl
set_option maxRecDepth 100000 in
set_option maxHeartbeats 8000000 in
theorem s6_4 {K : Exit → Act → World → Prop} {W : World} {Br b off ln cap i : Nat} {name typ x : ByteArray} {id : Int} {u1 u2 u3 u6 u7 u8 u9 u10 u11 u12 u13 u14 u15 u16 u17 u18 u19 u20 u21 u22 u23 u24 u25 u26 u27 u28 u29 u30 u31 u32 u33 u34 u35 u36 u37 u38 u39 u40 u41 u42 u43 u44 u45 u46 u47 u48 u49 u50 u51 u52 u53 u54 u55 u56 u57 u58 : Value}
    (y0 : W.cell? ⟨Br, 0, none⟩ = some (.string name)) (y1 : W.cell? ⟨Br, 1, none⟩ = some (.string typ)) (y2 : W.cell? ⟨Br, 2, none⟩ = some (.int .i64 id)) (e1 : name.toList.isEmpty = false) (d2 : ¬ (40 : Int) < (name.size : Int)) (d3 : ¬ (1000 : Int) < (typ.size : Int)) (d4 : id < 1)
    (hgo : ∀ (v17 v18 v19 v20 v21 v22 v23 v24 v25 v26 v27 v28 v29 v30 v31 v32 v33 v34 v35 v36 v37 v38 v39 v40 v41 v42 v43 v44 v45 v46 v47 v48 v49 v50 v51 v52 v53 v54 v55 : Value) (B : Bool), B = true → K .normal { tmps := #[.slice (some ⟨b, off, none⟩) ln cap, u1, u2, u3, .int .i64 (i : Int), .pointer (some ⟨Br, 0, none⟩), u6, u7, u8, u9, u10, u11, u12, u13, u14, u15, u16, v17, v18, v19, v20, v21, v22, v23, v24, v25, v26, v27, v28, v29, v30, v31, v32, v33, v34, v35, v36, v37, v38, v39, v40, v41, v42, v43, v44, v45, v46, v47, v48, v49, v50, v51, v52, v53, v54, v55, .bool B, u57, u58], defers := [] } W.drew) :
    Code.wp Tryz.prog sreg6 K { tmps := #[.slice (some ⟨b, off, none⟩) ln cap, u1, u2, u3, .int .i64 (i : Int), .pointer (some ⟨Br, 0, none⟩), u6, u7, u8, u9, u10, u11, u12, u13, u14, u15, u16, u17, u18, u19, u20, u21, u22, u23, u24, u25, u26, u27, u28, u29, u30, u31, u32, u33, u34, u35, u36, u37, u38, u39, u40, u41, u42, u43, u44, u45, u46, u47, u48, u49, u50, u51, u52, u53, u54, u55, u56, u57, u58], defers := [] } W := by
  conv => arg 2; whnf
  refine still_abs 39 (by kernel_rfl) (by kernel_rfl) (fun X hX => ?_)
  have x3 := hX 3 20 rfl
  have x9 := hX 9 26 rfl
  have x15 := hX 15 32 rfl
  have x20 := hX 20 37 rfl
  have x25 := hX 25 42 rfl
  have x28 := hX 28 45 rfl
  clear hX
  have q2 := decide_eq_false d2
  have q3 := decide_eq_false d3
  have HGO := Lib.hid hgo
  clear hgo
  simp only [List.take_succ_cons, List.take_zero, List.drop_succ_cons, List.drop_zero]
  refine st_plain rfl (fun K hK => ?_); go_simp; refine hK _ ?_; clear hK K
  refine st_plain rfl (fun K hK => ?_); go_simp; refine hK _ ?_; clear hK K
  refine st_plain rfl (fun K hK => ?_); go_simp; refine hK _ ?_; clear hK K
  refine st_plain rfl (fun K hK => ?_); go_simp; refine hK _ ?_; clear hK K
  refine st_want rfl x3 rfl (fun K hK => ?_); go_simp; refine hK _ ?_; clear hK K
  refine st_want rfl x3 rfl (fun K hK => ?_); go_simp; refine hK _ ?_; clear hK K
  refine st_want rfl x3 rfl (fun K hK => ?_); go_simp; refine hK _ ?_; clear hK K
  refine st_want rfl x3 rfl (fun K hK => ?_); go_simp; refine hK _ ?_; clear hK K
  refine st_plain rfl (fun K hK => ?_); go_simp; refine hK _ ?_; clear hK K
  refine st_plain rfl (fun K hK => ?_); go_simp; refine hK _ ?_; clear hK K
  refine st_want rfl x9 rfl (fun K hK => ?_); go_simp; refine hK _ ?_; clear hK K
  refine st_want rfl x9 rfl (fun K hK => ?_); go_simp; refine hK _ ?_; clear hK K
  refine st_want rfl x9 rfl (fun K hK => ?_); go_simp; refine hK _ ?_; clear hK K
  refine st_want rfl x9 rfl (fun K hK => ?_); go_simp; refine hK _ ?_; clear hK K
  refine st_plain rfl (fun K hK => ?_); go_simp; refine hK _ ?_; clear hK K
  refine st_plain rfl (fun K hK => ?_); go_simp; refine hK _ ?_; clear hK K
  refine st_want rfl x15 rfl (fun K hK => ?_); go_simp; refine hK _ ?_; clear hK K
  refine st_want rfl x15 rfl (fun K hK => ?_); go_simp; refine hK _ ?_; clear hK K
  refine st_want rfl x15 rfl (fun K hK => ?_); go_simp; refine hK _ ?_; clear hK K
  refine st_plain rfl (fun K hK => ?_); go_simp; refine hK _ ?_; clear hK K
  refine st_plain rfl (fun K hK => ?_); go_simp; refine hK _ ?_; clear hK K
  refine st_skip rfl x20 rfl rfl (fun K hK => ?_); simp only [Act.put, List.setIfInBounds_toArray, List.set_cons_zero, List.set_cons_succ]; refine hK _ ?_; clear hK K
  refine st_skip rfl x20 rfl rfl (fun K hK => ?_); simp only [Act.put, List.setIfInBounds_toArray, List.set_cons_zero, List.set_cons_succ]; refine hK _ ?_; clear hK K
  refine st_skip rfl x20 rfl rfl (fun K hK => ?_); simp only [Act.put, List.setIfInBounds_toArray, List.set_cons_zero, List.set_cons_succ]; refine hK _ ?_; clear hK K
  refine st_plain rfl (fun K hK => ?_); go_simp; refine hK _ ?_; clear hK K
  refine st_plain rfl (fun K hK => ?_); go_simp; refine hK _ ?_; clear hK K
  refine st_skip rfl x25 rfl rfl (fun K hK => ?_); simp only [Act.put, List.setIfInBounds_toArray, List.set_cons_zero, List.set_cons_succ]; refine hK _ ?_; clear hK K
  refine st_skip rfl x25 rfl rfl (fun K hK => ?_); simp only [Act.put, List.setIfInBounds_toArray, List.set_cons_zero, List.set_cons_succ]; refine hK _ ?_; clear hK K
  refine st_skip rfl x25 rfl rfl (fun K hK => ?_); simp only [Act.put, List.setIfInBounds_toArray, List.set_cons_zero, List.set_cons_succ]; refine hK _ ?_; clear hK K
  refine st_skip rfl x28 rfl rfl (fun K hK => ?_); simp only [Act.put, List.setIfInBounds_toArray, List.set_cons_zero, List.set_cons_succ]; refine hK _ ?_; clear hK K
  refine st_skip rfl x28 rfl rfl (fun K hK => ?_); simp only [Act.put, List.setIfInBounds_toArray, List.set_cons_zero, List.set_cons_succ]; refine hK _ ?_; clear hK K
  refine st_skip rfl x28 rfl rfl (fun K hK => ?_); simp only [Act.put, List.setIfInBounds_toArray, List.set_cons_zero, List.set_cons_succ]; refine hK _ ?_; clear hK K
  refine st_skip rfl x28 rfl rfl (fun K hK => ?_); simp only [Act.put, List.setIfInBounds_toArray, List.set_cons_zero, List.set_cons_succ]; refine hK _ ?_; clear hK K
  refine st_skip rfl x28 rfl rfl (fun K hK => ?_); simp only [Act.put, List.setIfInBounds_toArray, List.set_cons_zero, List.set_cons_succ]; refine hK _ ?_; clear hK K
  refine st_skip rfl x28 rfl rfl (fun K hK => ?_); simp only [Act.put, List.setIfInBounds_toArray, List.set_cons_zero, List.set_cons_succ]; refine hK _ ?_; clear hK K
  refine st_skip rfl x28 rfl rfl (fun K hK => ?_); simp only [Act.put, List.setIfInBounds_toArray, List.set_cons_zero, List.set_cons_succ]; refine hK _ ?_; clear hK K
  refine st_skip rfl x28 rfl rfl (fun K hK => ?_); simp only [Act.put, List.setIfInBounds_toArray, List.set_cons_zero, List.set_cons_succ]; refine hK _ ?_; clear hK K
  refine st_skip rfl x28 rfl rfl (fun K hK => ?_); simp only [Act.put, List.setIfInBounds_toArray, List.set_cons_zero, List.set_cons_succ]; refine hK _ ?_; clear hK K
  refine st_skip rfl x25 rfl rfl (fun K hK => ?_); simp only [Act.put, List.setIfInBounds_toArray, List.set_cons_zero, List.set_cons_succ]; refine hK _ ?_; clear hK K
  refine wpStill_nil ?_
  go_wp2
  exact HGO.out _ _ _ _ _ _ _ _ _ _ _ _ _ _ _ _ _ _ _ _ _ _ _ _ _ _ _ _ _ _ _ _ _ _ _ _ _ _ _ _ rfl
set_option maxRecDepth 100000 in
set_option maxHeartbeats 8000000 in
theorem s6_5 {K : Exit → Act → World → Prop} {W : World} {Br b off ln cap i : Nat} {name typ x : ByteArray} {id : Int} {u1 u2 u3 u6 u7 u8 u9 u10 u11 u12 u13 u14 u15 u16 u17 u18 u19 u20 u21 u22 u23 u24 u25 u26 u27 u28 u29 u30 u31 u32 u33 u34 u35 u36 u37 u38 u39 u40 u41 u42 u43 u44 u45 u46 u47 u48 u49 u50 u51 u52 u53 u54 u55 u56 u57 u58 : Value}
    (y0 : W.cell? ⟨Br, 0, none⟩ = some (.string name)) (y1 : W.cell? ⟨Br, 1, none⟩ = some (.string typ)) (y2 : W.cell? ⟨Br, 2, none⟩ = some (.int .i64 id)) (e1 : name.toList.isEmpty = false) (d2 : ¬ (40 : Int) < (name.size : Int)) (d3 : ¬ (1000 : Int) < (typ.size : Int)) (d4 : ¬ id < 1) (d5 : 1099511627776 < id)
    (hgo : ∀ (v17 v18 v19 v20 v21 v22 v23 v24 v25 v26 v27 v28 v29 v30 v31 v32 v33 v34 v35 v36 v37 v38 v39 v40 v41 v42 v43 v44 v45 v46 v47 v48 v49 v50 v51 v52 v53 v54 v55 : Value) (B : Bool), B = true → K .normal { tmps := #[.slice (some ⟨b, off, none⟩) ln cap, u1, u2, u3, .int .i64 (i : Int), .pointer (some ⟨Br, 0, none⟩), u6, u7, u8, u9, u10, u11, u12, u13, u14, u15, u16, v17, v18, v19, v20, v21, v22, v23, v24, v25, v26, v27, v28, v29, v30, v31, v32, v33, v34, v35, v36, v37, v38, v39, v40, v41, v42, v43, v44, v45, v46, v47, v48, v49, v50, v51, v52, v53, v54, v55, .bool B, u57, u58], defers := [] } W.drew) :
    Code.wp Tryz.prog sreg6 K { tmps := #[.slice (some ⟨b, off, none⟩) ln cap, u1, u2, u3, .int .i64 (i : Int), .pointer (some ⟨Br, 0, none⟩), u6, u7, u8, u9, u10, u11, u12, u13, u14, u15, u16, u17, u18, u19, u20, u21, u22, u23, u24, u25, u26, u27, u28, u29, u30, u31, u32, u33, u34, u35, u36, u37, u38, u39, u40, u41, u42, u43, u44, u45, u46, u47, u48, u49, u50, u51, u52, u53, u54, u55, u56, u57, u58], defers := [] } W := by
  conv => arg 2; whnf
  refine still_abs 39 (by kernel_rfl) (by kernel_rfl) (fun X hX => ?_)
  have x3 := hX 3 20 rfl
  have x9 := hX 9 26 rfl
  have x15 := hX 15 32 rfl
  have x20 := hX 20 37 rfl
  have x25 := hX 25 42 rfl
  have x28 := hX 28 45 rfl
  clear hX
  have q2 := decide_eq_false d2
  have q3 := decide_eq_false d3
  have q4 := decide_eq_false d4
  have HGO := Lib.hid hgo
  clear hgo
  simp only [List.take_succ_cons, List.take_zero, List.drop_succ_cons, List.drop_zero]
  refine st_plain rfl (fun K hK => ?_); go_simp; refine hK _ ?_; clear hK K
  refine st_plain rfl (fun K hK => ?_); go_simp; refine hK _ ?_; clear hK K
  refine st_plain rfl (fun K hK => ?_); go_simp; refine hK _ ?_; clear hK K
  refine st_plain rfl (fun K hK => ?_); go_simp; refine hK _ ?_; clear hK K
  refine st_want rfl x3 rfl (fun K hK => ?_); go_simp; refine hK _ ?_; clear hK K
  refine st_want rfl x3 rfl (fun K hK => ?_); go_simp; refine hK _ ?_; clear hK K
  refine st_want rfl x3 rfl (fun K hK => ?_); go_simp; refine hK _ ?_; clear hK K
  refine st_want rfl x3 rfl (fun K hK => ?_); go_simp; refine hK _ ?_; clear hK K
  refine st_plain rfl (fun K hK => ?_); go_simp; refine hK _ ?_; clear hK K
  refine st_plain rfl (fun K hK => ?_); go_simp; refine hK _ ?_; clear hK K
  refine st_want rfl x9 rfl (fun K hK => ?_); go_simp; refine hK _ ?_; clear hK K
  refine st_want rfl x9 rfl (fun K hK => ?_); go_simp; refine hK _ ?_; clear hK K
  refine st_want rfl x9 rfl (fun K hK => ?_); go_simp; refine hK _ ?_; clear hK K
  refine st_want rfl x9 rfl (fun K hK => ?_); go_simp; refine hK _ ?_; clear hK K
  refine st_plain rfl (fun K hK => ?_); go_simp; refine hK _ ?_; clear hK K
  refine st_plain rfl (fun K hK => ?_); go_simp; refine hK _ ?_; clear hK K
  refine st_want rfl x15 rfl (fun K hK => ?_); go_simp; refine hK _ ?_; clear hK K
  refine st_want rfl x15 rfl (fun K hK => ?_); go_simp; refine hK _ ?_; clear hK K
  refine st_want rfl x15 rfl (fun K hK => ?_); go_simp; refine hK _ ?_; clear hK K
  refine st_plain rfl (fun K hK => ?_); go_simp; refine hK _ ?_; clear hK K
  refine st_plain rfl (fun K hK => ?_); go_simp; refine hK _ ?_; clear hK K
  refine st_want rfl x20 rfl (fun K hK => ?_); go_simp; refine hK _ ?_; clear hK K
  refine st_want rfl x20 rfl (fun K hK => ?_); go_simp; refine hK _ ?_; clear hK K
  refine st_want rfl x20 rfl (fun K hK => ?_); go_simp; refine hK _ ?_; clear hK K
  refine st_plain rfl (fun K hK => ?_); go_simp; refine hK _ ?_; clear hK K
  refine st_plain rfl (fun K hK => ?_); go_simp; refine hK _ ?_; clear hK K
  refine st_skip rfl x25 rfl rfl (fun K hK => ?_); simp only [Act.put, List.setIfInBounds_toArray, List.set_cons_zero, List.set_cons_succ]; refine hK _ ?_; clear hK K
  refine st_skip rfl x25 rfl rfl (fun K hK => ?_); simp only [Act.put, List.setIfInBounds_toArray, List.set_cons_zero, List.set_cons_succ]; refine hK _ ?_; clear hK K
  refine st_skip rfl x25 rfl rfl (fun K hK => ?_); simp only [Act.put, List.setIfInBounds_toArray, List.set_cons_zero, List.set_cons_succ]; refine hK _ ?_; clear hK K
  refine st_skip rfl x28 rfl rfl (fun K hK => ?_); simp only [Act.put, List.setIfInBounds_toArray, List.set_cons_zero, List.set_cons_succ]; refine hK _ ?_; clear hK K
  refine st_skip rfl x28 rfl rfl (fun K hK => ?_); simp only [Act.put, List.setIfInBounds_toArray, List.set_cons_zero, List.set_cons_succ]; refine hK _ ?_; clear hK K
  refine st_skip rfl x28 rfl rfl (fun K hK => ?_); simp only [Act.put, List.setIfInBounds_toArray, List.set_cons_zero, List.set_cons_succ]; refine hK _ ?_; clear hK K
  refine st_skip rfl x28 rfl rfl (fun K hK => ?_); simp only [Act.put, List.setIfInBounds_toArray, List.set_cons_zero, List.set_cons_succ]; refine hK _ ?_; clear hK K
  refine st_skip rfl x28 rfl rfl (fun K hK => ?_); simp only [Act.put, List.setIfInBounds_toArray, List.set_cons_zero, List.set_cons_succ]; refine hK _ ?_; clear hK K
  refine st_skip rfl x28 rfl rfl (fun K hK => ?_); simp only [Act.put, List.setIfInBounds_toArray, List.set_cons_zero, List.set_cons_succ]; refine hK _ ?_; clear hK K
  refine st_skip rfl x28 rfl rfl (fun K hK => ?_); simp only [Act.put, List.setIfInBounds_toArray, List.set_cons_zero, List.set_cons_succ]; refine hK _ ?_; clear hK K
  refine st_skip rfl x28 rfl rfl (fun K hK => ?_); simp only [Act.put, List.setIfInBounds_toArray, List.set_cons_zero, List.set_cons_succ]; refine hK _ ?_; clear hK K
  refine st_skip rfl x28 rfl rfl (fun K hK => ?_); simp only [Act.put, List.setIfInBounds_toArray, List.set_cons_zero, List.set_cons_succ]; refine hK _ ?_; clear hK K
  refine st_skip rfl x25 rfl rfl (fun K hK => ?_); simp only [Act.put, List.setIfInBounds_toArray, List.set_cons_zero, List.set_cons_succ]; refine hK _ ?_; clear hK K
  refine wpStill_nil ?_
  go_wp2
  exact HGO.out _ _ _ _ _ _ _ _ _ _ _ _ _ _ _ _ _ _ _ _ _ _ _ _ _ _ _ _ _ _ _ _ _ _ _ _ _ _ _ _ rfl
set_option maxRecDepth 100000 in
set_option maxHeartbeats 8000000 in
theorem s6_6 {K : Exit → Act → World → Prop} {W : World} {Br b off ln cap i : Nat} {name typ x : ByteArray} {id : Int} {u1 u2 u3 u6 u7 u8 u9 u10 u11 u12 u13 u14 u15 u16 u17 u18 u19 u20 u21 u22 u23 u24 u25 u26 u27 u28 u29 u30 u31 u32 u33 u34 u35 u36 u37 u38 u39 u40 u41 u42 u43 u44 u45 u46 u47 u48 u49 u50 u51 u52 u53 u54 u55 u56 u57 u58 : Value}
    (y0 : W.cell? ⟨Br, 0, none⟩ = some (.string name)) (y1 : W.cell? ⟨Br, 1, none⟩ = some (.string typ)) (y2 : W.cell? ⟨Br, 2, none⟩ = some (.int .i64 id)) (e1 : name.toList.isEmpty = false) (d2 : ¬ (40 : Int) < (name.size : Int)) (d3 : ¬ (1000 : Int) < (typ.size : Int)) (d4 : ¬ id < 1) (d5 : ¬ 1099511627776 < id) (d6 : ¬ (0 : Int) < (i : Int))
    (hgo : ∀ (v17 v18 v19 v20 v21 v22 v23 v24 v25 v26 v27 v28 v29 v30 v31 v32 v33 v34 v35 v36 v37 v38 v39 v40 v41 v42 v43 v44 v45 v46 v47 v48 v49 v50 v51 v52 v53 v54 v55 : Value) (B : Bool), B = false → K .normal { tmps := #[.slice (some ⟨b, off, none⟩) ln cap, u1, u2, u3, .int .i64 (i : Int), .pointer (some ⟨Br, 0, none⟩), u6, u7, u8, u9, u10, u11, u12, u13, u14, u15, u16, v17, v18, v19, v20, v21, v22, v23, v24, v25, v26, v27, v28, v29, v30, v31, v32, v33, v34, v35, v36, v37, v38, v39, v40, v41, v42, v43, v44, v45, v46, v47, v48, v49, v50, v51, v52, v53, v54, v55, .bool B, u57, u58], defers := [] } W.drew) :
    Code.wp Tryz.prog sreg6 K { tmps := #[.slice (some ⟨b, off, none⟩) ln cap, u1, u2, u3, .int .i64 (i : Int), .pointer (some ⟨Br, 0, none⟩), u6, u7, u8, u9, u10, u11, u12, u13, u14, u15, u16, u17, u18, u19, u20, u21, u22, u23, u24, u25, u26, u27, u28, u29, u30, u31, u32, u33, u34, u35, u36, u37, u38, u39, u40, u41, u42, u43, u44, u45, u46, u47, u48, u49, u50, u51, u52, u53, u54, u55, u56, u57, u58], defers := [] } W := by
  conv => arg 2; whnf
  refine still_abs 39 (by kernel_rfl) (by kernel_rfl) (fun X hX => ?_)
  have x3 := hX 3 20 rfl
  have x9 := hX 9 26 rfl
  have x15 := hX 15 32 rfl
  have x20 := hX 20 37 rfl
  have x25 := hX 25 42 rfl
  have x28 := hX 28 45 rfl
  clear hX
  have q2 := decide_eq_false d2
  have q3 := decide_eq_false d3
  have q4 := decide_eq_false d4
  have q5 := decide_eq_false d5
  have d6n : ¬ 0 < i := by omega
  have q6 := decide_eq_false d6
  have q6n := decide_eq_false d6n
  have HGO := Lib.hid hgo
  clear hgo
  simp only [List.take_succ_cons, List.take_zero, List.drop_succ_cons, List.drop_zero]
  refine st_plain rfl (fun K hK => ?_); go_simp; refine hK _ ?_; clear hK K
  refine st_plain rfl (fun K hK => ?_); go_simp; refine hK _ ?_; clear hK K
  refine st_plain rfl (fun K hK => ?_); go_simp; refine hK _ ?_; clear hK K
  refine st_plain rfl (fun K hK => ?_); go_simp; refine hK _ ?_; clear hK K
  refine st_want rfl x3 rfl (fun K hK => ?_); go_simp; refine hK _ ?_; clear hK K
  refine st_want rfl x3 rfl (fun K hK => ?_); go_simp; refine hK _ ?_; clear hK K
  refine st_want rfl x3 rfl (fun K hK => ?_); go_simp; refine hK _ ?_; clear hK K
  refine st_want rfl x3 rfl (fun K hK => ?_); go_simp; refine hK _ ?_; clear hK K
  refine st_plain rfl (fun K hK => ?_); go_simp; refine hK _ ?_; clear hK K
  refine st_plain rfl (fun K hK => ?_); go_simp; refine hK _ ?_; clear hK K
  refine st_want rfl x9 rfl (fun K hK => ?_); go_simp; refine hK _ ?_; clear hK K
  refine st_want rfl x9 rfl (fun K hK => ?_); go_simp; refine hK _ ?_; clear hK K
  refine st_want rfl x9 rfl (fun K hK => ?_); go_simp; refine hK _ ?_; clear hK K
  refine st_want rfl x9 rfl (fun K hK => ?_); go_simp; refine hK _ ?_; clear hK K
  refine st_plain rfl (fun K hK => ?_); go_simp; refine hK _ ?_; clear hK K
  refine st_plain rfl (fun K hK => ?_); go_simp; refine hK _ ?_; clear hK K
  refine st_want rfl x15 rfl (fun K hK => ?_); go_simp; refine hK _ ?_; clear hK K
  refine st_want rfl x15 rfl (fun K hK => ?_); go_simp; refine hK _ ?_; clear hK K
  refine st_want rfl x15 rfl (fun K hK => ?_); go_simp; refine hK _ ?_; clear hK K
  refine st_plain rfl (fun K hK => ?_); go_simp; refine hK _ ?_; clear hK K
  refine st_plain rfl (fun K hK => ?_); go_simp; refine hK _ ?_; clear hK K
  refine st_want rfl x20 rfl (fun K hK => ?_); go_simp; refine hK _ ?_; clear hK K
  refine st_want rfl x20 rfl (fun K hK => ?_); go_simp; refine hK _ ?_; clear hK K
  refine st_want rfl x20 rfl (fun K hK => ?_); go_simp; refine hK _ ?_; clear hK K
  refine st_plain rfl (fun K hK => ?_); go_simp; refine hK _ ?_; clear hK K
  refine st_plain rfl (fun K hK => ?_); go_simp; refine hK _ ?_; clear hK K
  refine st_want rfl x25 rfl (fun K hK => ?_); go_simp; refine hK _ ?_; clear hK K
  refine st_want rfl x25 rfl (fun K hK => ?_); go_simp; refine hK _ ?_; clear hK K
  refine st_want rfl x25 rfl (fun K hK => ?_); go_simp; refine hK _ ?_; clear hK K
  refine st_skip rfl x28 rfl rfl (fun K hK => ?_); simp only [Act.put, List.setIfInBounds_toArray, List.set_cons_zero, List.set_cons_succ]; refine hK _ ?_; clear hK K
  refine st_skip rfl x28 rfl rfl (fun K hK => ?_); simp only [Act.put, List.setIfInBounds_toArray, List.set_cons_zero, List.set_cons_succ]; refine hK _ ?_; clear hK K
  refine st_skip rfl x28 rfl rfl (fun K hK => ?_); simp only [Act.put, List.setIfInBounds_toArray, List.set_cons_zero, List.set_cons_succ]; refine hK _ ?_; clear hK K
  refine st_skip rfl x28 rfl rfl (fun K hK => ?_); simp only [Act.put, List.setIfInBounds_toArray, List.set_cons_zero, List.set_cons_succ]; refine hK _ ?_; clear hK K
  refine st_skip rfl x28 rfl rfl (fun K hK => ?_); simp only [Act.put, List.setIfInBounds_toArray, List.set_cons_zero, List.set_cons_succ]; refine hK _ ?_; clear hK K
  refine st_skip rfl x28 rfl rfl (fun K hK => ?_); simp only [Act.put, List.setIfInBounds_toArray, List.set_cons_zero, List.set_cons_succ]; refine hK _ ?_; clear hK K
  refine st_skip rfl x28 rfl rfl (fun K hK => ?_); simp only [Act.put, List.setIfInBounds_toArray, List.set_cons_zero, List.set_cons_succ]; refine hK _ ?_; clear hK K
  refine st_skip rfl x28 rfl rfl (fun K hK => ?_); simp only [Act.put, List.setIfInBounds_toArray, List.set_cons_zero, List.set_cons_succ]; refine hK _ ?_; clear hK K
  refine st_skip rfl x28 rfl rfl (fun K hK => ?_); simp only [Act.put, List.setIfInBounds_toArray, List.set_cons_zero, List.set_cons_succ]; refine hK _ ?_; clear hK K
  refine st_want rfl x25 rfl (fun K hK => ?_); go_simp; refine hK _ ?_; clear hK K
  refine wpStill_nil ?_
  go_wp2
  exact HGO.out _ _ _ _ _ _ _ _ _ _ _ _ _ _ _ _ _ _ _ _ _ _ _ _ _ _ _ _ _ _ _ _ _ _ _ _ _ _ _ _ rfl
set_option maxRecDepth 100000 in
set_option maxHeartbeats 8000000 in
theorem s6_7 {K : Exit → Act → World → Prop} {W : World} {Br b off ln cap i : Nat} {name typ x : ByteArray} {id : Int} {u1 u2 u3 u6 u7 u8 u9 u10 u11 u12 u13 u14 u15 u16 u17 u18 u19 u20 u21 u22 u23 u24 u25 u26 u27 u28 u29 u30 u31 u32 u33 u34 u35 u36 u37 u38 u39 u40 u41 u42 u43 u44 u45 u46 u47 u48 u49 u50 u51 u52 u53 u54 u55 u56 u57 u58 : Value}
    (y0 : W.cell? ⟨Br, 0, none⟩ = some (.string name)) (y1 : W.cell? ⟨Br, 1, none⟩ = some (.string typ)) (y2 : W.cell? ⟨Br, 2, none⟩ = some (.int .i64 id)) (e1 : name.toList.isEmpty = false) (d2 : ¬ (40 : Int) < (name.size : Int)) (d3 : ¬ (1000 : Int) < (typ.size : Int)) (d4 : ¬ id < 1) (d5 : ¬ 1099511627776 < id) {j : Nat} (d6 : (0 : Int) < (i : Int)) (d7 : (i : Int) - 1 = (j : Int)) (j0 : (0 : Int) ≤ (j : Int)) (j1 : (j : Int) < (ln : Int)) (hx : W.cell? ⟨b, off + j * 3, none⟩ = some (.string x)) (hcap : ln ≤ 1000000) (e7 : (name.toList == x.toList) = true)
    (hgo : ∀ (v17 v18 v19 v20 v21 v22 v23 v24 v25 v26 v27 v28 v29 v30 v31 v32 v33 v34 v35 v36 v37 v38 v39 v40 v41 v42 v43 v44 v45 v46 v47 v48 v49 v50 v51 v52 v53 v54 v55 : Value) (B : Bool), B = true → K .normal { tmps := #[.slice (some ⟨b, off, none⟩) ln cap, u1, u2, u3, .int .i64 (i : Int), .pointer (some ⟨Br, 0, none⟩), u6, u7, u8, u9, u10, u11, u12, u13, u14, u15, u16, v17, v18, v19, v20, v21, v22, v23, v24, v25, v26, v27, v28, v29, v30, v31, v32, v33, v34, v35, v36, v37, v38, v39, v40, v41, v42, v43, v44, v45, v46, v47, v48, v49, v50, v51, v52, v53, v54, v55, .bool B, u57, u58], defers := [] } W.drew) :
    Code.wp Tryz.prog sreg6 K { tmps := #[.slice (some ⟨b, off, none⟩) ln cap, u1, u2, u3, .int .i64 (i : Int), .pointer (some ⟨Br, 0, none⟩), u6, u7, u8, u9, u10, u11, u12, u13, u14, u15, u16, u17, u18, u19, u20, u21, u22, u23, u24, u25, u26, u27, u28, u29, u30, u31, u32, u33, u34, u35, u36, u37, u38, u39, u40, u41, u42, u43, u44, u45, u46, u47, u48, u49, u50, u51, u52, u53, u54, u55, u56, u57, u58], defers := [] } W := by
  conv => arg 2; whnf
  refine still_abs 39 (by kernel_rfl) (by kernel_rfl) (fun X hX => ?_)
  have x3 := hX 3 20 rfl
  have x9 := hX 9 26 rfl
  have x15 := hX 15 32 rfl
  have x20 := hX 20 37 rfl
  have x25 := hX 25 42 rfl
  have x28 := hX 28 45 rfl
  clear hX
  have q2 := decide_eq_false d2
  have q3 := decide_eq_false d3
  have q4 := decide_eq_false d4
  have q5 := decide_eq_false d5
  have d6n : 0 < i := by omega
  have jw : IntKind.i64.wrap (j : Int) = (j : Int) := by rw [IntKind.wrap_i64]; omega
  have HGO := Lib.hid hgo
  clear hgo
  simp only [List.take_succ_cons, List.take_zero, List.drop_succ_cons, List.drop_zero]
  refine st_plain rfl (fun K hK => ?_); go_simp; refine hK _ ?_; clear hK K
  refine st_plain rfl (fun K hK => ?_); go_simp; refine hK _ ?_; clear hK K
  refine st_plain rfl (fun K hK => ?_); go_simp; refine hK _ ?_; clear hK K
  refine st_plain rfl (fun K hK => ?_); go_simp; refine hK _ ?_; clear hK K
  refine st_want rfl x3 rfl (fun K hK => ?_); go_simp; refine hK _ ?_; clear hK K
  refine st_want rfl x3 rfl (fun K hK => ?_); go_simp; refine hK _ ?_; clear hK K
  refine st_want rfl x3 rfl (fun K hK => ?_); go_simp; refine hK _ ?_; clear hK K
  refine st_want rfl x3 rfl (fun K hK => ?_); go_simp; refine hK _ ?_; clear hK K
  refine st_plain rfl (fun K hK => ?_); go_simp; refine hK _ ?_; clear hK K
  refine st_plain rfl (fun K hK => ?_); go_simp; refine hK _ ?_; clear hK K
  refine st_want rfl x9 rfl (fun K hK => ?_); go_simp; refine hK _ ?_; clear hK K
  refine st_want rfl x9 rfl (fun K hK => ?_); go_simp; refine hK _ ?_; clear hK K
  refine st_want rfl x9 rfl (fun K hK => ?_); go_simp; refine hK _ ?_; clear hK K
  refine st_want rfl x9 rfl (fun K hK => ?_); go_simp; refine hK _ ?_; clear hK K
  refine st_plain rfl (fun K hK => ?_); go_simp; refine hK _ ?_; clear hK K
  refine st_plain rfl (fun K hK => ?_); go_simp; refine hK _ ?_; clear hK K
  refine st_want rfl x15 rfl (fun K hK => ?_); go_simp; refine hK _ ?_; clear hK K
  refine st_want rfl x15 rfl (fun K hK => ?_); go_simp; refine hK _ ?_; clear hK K
  refine st_want rfl x15 rfl (fun K hK => ?_); go_simp; refine hK _ ?_; clear hK K
  refine st_plain rfl (fun K hK => ?_); go_simp; refine hK _ ?_; clear hK K
  refine st_plain rfl (fun K hK => ?_); go_simp; refine hK _ ?_; clear hK K
  refine st_want rfl x20 rfl (fun K hK => ?_); go_simp; refine hK _ ?_; clear hK K
  refine st_want rfl x20 rfl (fun K hK => ?_); go_simp; refine hK _ ?_; clear hK K
  refine st_want rfl x20 rfl (fun K hK => ?_); go_simp; refine hK _ ?_; clear hK K
  refine st_plain rfl (fun K hK => ?_); go_simp; refine hK _ ?_; clear hK K
  refine st_plain rfl (fun K hK => ?_); go_simp; refine hK _ ?_; clear hK K
  refine st_want rfl x25 rfl (fun K hK => ?_); go_simp; refine hK _ ?_; clear hK K
  refine st_want rfl x25 rfl (fun K hK => ?_); go_simp; refine hK _ ?_; clear hK K
  refine st_want rfl x25 rfl (fun K hK => ?_); go_simp; refine hK _ ?_; clear hK K
  refine st_want rfl x28 rfl (fun K hK => ?_); go_simp; refine hK _ ?_; clear hK K
  refine st_want rfl x28 rfl (fun K hK => ?_); go_simp; refine hK _ ?_; clear hK K
  refine st_want rfl x28 rfl (fun K hK => ?_); go_simp; refine hK _ ?_; clear hK K
  refine st_want rfl x28 rfl (fun K hK => ?_); go_simp; refine hK _ ?_; clear hK K
  refine st_want rfl x28 rfl (fun K hK => ?_); go_simp; refine hK _ ?_; clear hK K
  refine st_want rfl x28 rfl (fun K hK => ?_); go_simp; refine hK _ ?_; clear hK K
  refine st_want rfl x28 rfl (fun K hK => ?_); go_simp; refine hK _ ?_; clear hK K
  refine st_want rfl x28 rfl (fun K hK => ?_); go_simp; refine hK _ ?_; clear hK K
  refine st_want rfl x28 rfl (fun K hK => ?_); go_simp; refine hK _ ?_; clear hK K
  refine st_want rfl x25 rfl (fun K hK => ?_); go_simp; refine hK _ ?_; clear hK K
  refine wpStill_nil ?_
  go_wp2
  exact HGO.out _ _ _ _ _ _ _ _ _ _ _ _ _ _ _ _ _ _ _ _ _ _ _ _ _ _ _ _ _ _ _ _ _ _ _ _ _ _ _ _ rfl
set_option maxRecDepth 100000 in
set_option maxHeartbeats 8000000 in
theorem s6_8 {K : Exit → Act → World → Prop} {W : World} {Br b off ln cap i : Nat} {name typ x : ByteArray} {id : Int} {u1 u2 u3 u6 u7 u8 u9 u10 u11 u12 u13 u14 u15 u16 u17 u18 u19 u20 u21 u22 u23 u24 u25 u26 u27 u28 u29 u30 u31 u32 u33 u34 u35 u36 u37 u38 u39 u40 u41 u42 u43 u44 u45 u46 u47 u48 u49 u50 u51 u52 u53 u54 u55 u56 u57 u58 : Value}
    (y0 : W.cell? ⟨Br, 0, none⟩ = some (.string name)) (y1 : W.cell? ⟨Br, 1, none⟩ = some (.string typ)) (y2 : W.cell? ⟨Br, 2, none⟩ = some (.int .i64 id)) (e1 : name.toList.isEmpty = false) (d2 : ¬ (40 : Int) < (name.size : Int)) (d3 : ¬ (1000 : Int) < (typ.size : Int)) (d4 : ¬ id < 1) (d5 : ¬ 1099511627776 < id) {j : Nat} (d6 : (0 : Int) < (i : Int)) (d7 : (i : Int) - 1 = (j : Int)) (j0 : (0 : Int) ≤ (j : Int)) (j1 : (j : Int) < (ln : Int)) (hx : W.cell? ⟨b, off + j * 3, none⟩ = some (.string x)) (hcap : ln ≤ 1000000) (e7 : (name.toList == x.toList) = false)
    (hgo : ∀ (v17 v18 v19 v20 v21 v22 v23 v24 v25 v26 v27 v28 v29 v30 v31 v32 v33 v34 v35 v36 v37 v38 v39 v40 v41 v42 v43 v44 v45 v46 v47 v48 v49 v50 v51 v52 v53 v54 v55 : Value) (B : Bool), B = false → K .normal { tmps := #[.slice (some ⟨b, off, none⟩) ln cap, u1, u2, u3, .int .i64 (i : Int), .pointer (some ⟨Br, 0, none⟩), u6, u7, u8, u9, u10, u11, u12, u13, u14, u15, u16, v17, v18, v19, v20, v21, v22, v23, v24, v25, v26, v27, v28, v29, v30, v31, v32, v33, v34, v35, v36, v37, v38, v39, v40, v41, v42, v43, v44, v45, v46, v47, v48, v49, v50, v51, v52, v53, v54, v55, .bool B, u57, u58], defers := [] } W.drew) :
    Code.wp Tryz.prog sreg6 K { tmps := #[.slice (some ⟨b, off, none⟩) ln cap, u1, u2, u3, .int .i64 (i : Int), .pointer (some ⟨Br, 0, none⟩), u6, u7, u8, u9, u10, u11, u12, u13, u14, u15, u16, u17, u18, u19, u20, u21, u22, u23, u24, u25, u26, u27, u28, u29, u30, u31, u32, u33, u34, u35, u36, u37, u38, u39, u40, u41, u42, u43, u44, u45, u46, u47, u48, u49, u50, u51, u52, u53, u54, u55, u56, u57, u58], defers := [] } W := by
  conv => arg 2; whnf
  refine still_abs 39 (by kernel_rfl) (by kernel_rfl) (fun X hX => ?_)
  have x3 := hX 3 20 rfl
  have x9 := hX 9 26 rfl
  have x15 := hX 15 32 rfl
  have x20 := hX 20 37 rfl
  have x25 := hX 25 42 rfl
  have x28 := hX 28 45 rfl
  clear hX
  have q2 := decide_eq_false d2
  have q3 := decide_eq_false d3
  have q4 := decide_eq_false d4
  have q5 := decide_eq_false d5
  have d6n : 0 < i := by omega
  have jw : IntKind.i64.wrap (j : Int) = (j : Int) := by rw [IntKind.wrap_i64]; omega
  have HGO := Lib.hid hgo
  clear hgo
  simp only [List.take_succ_cons, List.take_zero, List.drop_succ_cons, List.drop_zero]
  refine st_plain rfl (fun K hK => ?_); go_simp; refine hK _ ?_; clear hK K
  refine st_plain rfl (fun K hK => ?_); go_simp; refine hK _ ?_; clear hK K
  refine st_plain rfl (fun K hK => ?_); go_simp; refine hK _ ?_; clear hK K
  refine st_plain rfl (fun K hK => ?_); go_simp; refine hK _ ?_; clear hK K
  refine st_want rfl x3 rfl (fun K hK => ?_); go_simp; refine hK _ ?_; clear hK K
  refine st_want rfl x3 rfl (fun K hK => ?_); go_simp; refine hK _ ?_; clear hK K
  refine st_want rfl x3 rfl (fun K hK => ?_); go_simp; refine hK _ ?_; clear hK K
  refine st_want rfl x3 rfl (fun K hK => ?_); go_simp; refine hK _ ?_; clear hK K
  refine st_plain rfl (fun K hK => ?_); go_simp; refine hK _ ?_; clear hK K
  refine st_plain rfl (fun K hK => ?_); go_simp; refine hK _ ?_; clear hK K
  refine st_want rfl x9 rfl (fun K hK => ?_); go_simp; refine hK _ ?_; clear hK K
  refine st_want rfl x9 rfl (fun K hK => ?_); go_simp; refine hK _ ?_; clear hK K
  refine st_want rfl x9 rfl (fun K hK => ?_); go_simp; refine hK _ ?_; clear hK K
  refine st_want rfl x9 rfl (fun K hK => ?_); go_simp; refine hK _ ?_; clear hK K
  refine st_plain rfl (fun K hK => ?_); go_simp; refine hK _ ?_; clear hK K
  refine st_plain rfl (fun K hK => ?_); go_simp; refine hK _ ?_; clear hK K
  refine st_want rfl x15 rfl (fun K hK => ?_); go_simp; refine hK _ ?_; clear hK K
  refine st_want rfl x15 rfl (fun K hK => ?_); go_simp; refine hK _ ?_; clear hK K
  refine st_want rfl x15 rfl (fun K hK => ?_); go_simp; refine hK _ ?_; clear hK K
  refine st_plain rfl (fun K hK => ?_); go_simp; refine hK _ ?_; clear hK K
  refine st_plain rfl (fun K hK => ?_); go_simp; refine hK _ ?_; clear hK K
  refine st_want rfl x20 rfl (fun K hK => ?_); go_simp; refine hK _ ?_; clear hK K
  refine st_want rfl x20 rfl (fun K hK => ?_); go_simp; refine hK _ ?_; clear hK K
  refine st_want rfl x20 rfl (fun K hK => ?_); go_simp; refine hK _ ?_; clear hK K
  refine st_plain rfl (fun K hK => ?_); go_simp; refine hK _ ?_; clear hK K
  refine st_plain rfl (fun K hK => ?_); go_simp; refine hK _ ?_; clear hK K
  refine st_want rfl x25 rfl (fun K hK => ?_); go_simp; refine hK _ ?_; clear hK K
  refine st_want rfl x25 rfl (fun K hK => ?_); go_simp; refine hK _ ?_; clear hK K
  refine st_want rfl x25 rfl (fun K hK => ?_); go_simp; refine hK _ ?_; clear hK K
  refine st_want rfl x28 rfl (fun K hK => ?_); go_simp; refine hK _ ?_; clear hK K
  refine st_want rfl x28 rfl (fun K hK => ?_); go_simp; refine hK _ ?_; clear hK K
  refine st_want rfl x28 rfl (fun K hK => ?_); go_simp; refine hK _ ?_; clear hK K
  refine st_want rfl x28 rfl (fun K hK => ?_); go_simp; refine hK _ ?_; clear hK K
  refine st_want rfl x28 rfl (fun K hK => ?_); go_simp; refine hK _ ?_; clear hK K
  refine st_want rfl x28 rfl (fun K hK => ?_); go_simp; refine hK _ ?_; clear hK K
  refine st_want rfl x28 rfl (fun K hK => ?_); go_simp; refine hK _ ?_; clear hK K
  refine st_want rfl x28 rfl (fun K hK => ?_); go_simp; refine hK _ ?_; clear hK K
  refine st_want rfl x28 rfl (fun K hK => ?_); go_simp; refine hK _ ?_; clear hK K
  refine st_want rfl x25 rfl (fun K hK => ?_); go_simp; refine hK _ ?_; clear hK K
  refine wpStill_nil ?_
  go_wp2
  exact HGO.out _ _ _ _ _ _ _ _ _ _ _ _ _ _ _ _ _ _ _ _ _ _ _ _ _ _ _ _ _ _ _ _ _ _ _ _ _ _ _ _ rfl
end Go.Proofs.YtenikoecnfbfoaaGreatDoor
/- Layer 8 in plain words: what is met stays met, with its number. -/
namespace Go.Proofs.YtenikoecnfbfoaaGreatDoor
open Go.RowKit
set_option linter.unusedVariables false
set_option linter.unusedSimpArgs false
open Gr (RT meetT pairs numOf bfs findO)
namespace Gr
theorem pairsF_app : ∀ (a b : List Int) (k : Nat), pairsF k (a ++ b) = pairsF k a ++ pairsF (k + a.length) b
  | [], b, k => by simp [pairsF]
  | x :: a, b, k => by
    rw [List.cons_append, pairsF, pairsF_app a b, pairsF, List.cons_append, List.length_cons]
    congr 3
    omega
theorem firstP_app {a b : List (Int × Int)} {id c : Int} (h : firstP a id = some c) : firstP (a ++ b) id = some c := by
  induction a with
  | nil => cases h
  | cons x a ih =>
    rw [List.cons_append, firstP]
    rw [firstP] at h
    split
    · rename_i hx; rw [if_pos hx] at h; exact h
    · rename_i hx; rw [if_neg hx] at h; exact ih h
theorem numOf_pre {met m : List Int} (hp : met <+: m) {id : Int} (h : id ∈ met) : numOf m id = numOf met id := by
  obtain ⟨b, rfl⟩ := hp
  obtain ⟨c, _, _, hc⟩ := pairsF_some (k := 1) h
  unfold numOf pairs
  rw [pairsF_app, firstP_app hc, hc]
theorem bfs_pre {objs : List (Int × VT)} : ∀ (f i : Nat) (met : List Int) (vals : List VT) (m : List Int) (v : List VT), bfs objs f i met vals = some (m, v) → met <+: m
  | 0, i, met, vals, m, v, h => by
    rw [bfs] at h
    cases h
    exact List.prefix_refl _
  | f + 1, i, met, vals, m, v, h => by
    rw [bfs] at h
    split at h
    · cases h; exact List.prefix_refl _
    · split at h
      · cases h
      · exact meets_pre.trans (bfs_pre f _ _ _ m v h)
theorem bfs_mem {objs : List (Int × VT)} : ∀ (f i : Nat) (met : List Int) (vals : List VT) (m : List Int) (v : List VT), bfs objs f i met vals = some (m, v) → (∀ x ∈ vals, ∃ o ∈ objs, o.2 = x) → ∀ x ∈ v, ∃ o ∈ objs, o.2 = x
  | 0, i, met, vals, m, v, h, hv => by
    rw [bfs] at h
    cases h
    exact hv
  | f + 1, i, met, vals, m, v, h, hv => by
    rw [bfs] at h
    split at h
    · cases h; exact hv
    · rename_i id _
      split at h
      · cases h
      · rename_i t ht
        refine bfs_mem f _ _ _ m v h (fun x hx => ?_)
        rcases List.mem_append.1 hx with h | h
        · exact hv x h
        · rw [List.mem_singleton.1 h]
          exact ⟨(id, t), findO_mem ht, rfl⟩
end Gr
theorem AllAt.below {w w' : World} {M N : Nat} {objs : List (Int × VT)} {f : Int → Option Value} (h : AllAt w (fun b => b < M) objs f) (hb : Below M w w') (hN : M ≤ N) : AllAt w' (fun b => b < N) objs f := fun id => by
  have h := h id
  cases ho : findO objs id with
  | none => rw [ho] at h; exact h
  | some t =>
    rw [ho] at h
    obtain ⟨ao, cap, h1, h2⟩ := h
    exact ⟨ao, cap, h1, (h2.below hb (fun b hb => hb)).mono (fun b hb => Nat.lt_of_lt_of_le hb hN)⟩
theorem renum_pre {met m : List Int} (hp : met <+: m) {s : List RT} (h : ∀ r ∈ s, r.id ∈ met) : s.map (renum met) = s.map (renum m) := by
  apply List.map_congr_left
  intro r hr
  unfold renum
  rw [Gr.numOf_pre hp (h r hr)]
end Go.Proofs.YtenikoecnfbfoaaGreatDoor
/- Layer 8: objects' cells. -/
namespace Go.Proofs.YtenikoecnfbfoaaGreatDoor
open Go.RowKit
set_option linter.unusedVariables false
set_option linter.unusedSimpArgs false
/-- An object's five cells. -/
def ocs (x : OB) : List Value := [.int .i64 x.id, .int .i64 x.k, .int .i64 x.n, .string x.s, .slice x.ao x.len x.cap]
theorem ocs_len (x : OB) : (ocs x).length = 5 := rfl
def ocells (l : List OB) : List Value := l.flatMap ocs
theorem ocells_cons (r : OB) (l : List OB) : ocells (r :: l) = ocs r ++ ocells l := rfl
theorem ocells_append (a b : List OB) : ocells (a ++ b) = ocells a ++ ocells b := List.flatMap_append
theorem ocells_length : ∀ l : List OB, (ocells l).length = l.length * 5
  | [] => rfl
  | r :: l => by rw [ocells_cons, List.length_append, ocells_length l, ocs_len, List.length_cons]; omega
theorem ocells_one : ∀ (l : List OB), ∀ v ∈ ocells l, v.oneCell' = true := fun l v hv => by
  obtain ⟨r, _, h⟩ := List.mem_flatMap.1 hv
  simp only [ocs, List.mem_cons, List.not_mem_nil, or_false] at h
  rcases h with rfl | rfl | rfl | rfl | rfl <;> rfl
theorem ocells_get : ∀ {l : List OB} {j k : Nat} {r : OB}, l[j]? = some r → k < 5 → (ocells l)[j * 5 + k]? = (ocs r)[k]?
  | [], _, _, _, h, _ => by cases h
  | x :: l, 0, k, r, h, hk => by
    rw [List.getElem?_cons_zero] at h; cases h
    rw [ocells_cons, Nat.zero_mul, Nat.zero_add, List.getElem?_append_left (by rw [ocs_len]; exact hk)]
  | x :: l, j + 1, k, r, h, hk => by
    rw [List.getElem?_cons_succ] at h
    rw [ocells_cons, List.getElem?_append_right (by rw [ocs_len]; omega), ocs_len, show (j + 1) * 5 + k - 5 = j * 5 + k by omega]
    exact ocells_get h hk
end Go.Proofs.YtenikoecnfbfoaaGreatDoor
/- Layer 8: rows of objects that are made; the law's toObjects. -/
namespace Go.Proofs.YtenikoecnfbfoaaGreatDoor
open Go.RowKit
set_option linter.unusedVariables false
set_option linter.unusedSimpArgs false
open Gr (RT)
/-- A row of objects that the call itself made; their values lie in other blocks of its own. -/
def OwRow (T : TypeId) (w : World) (N : Nat) (v : Value) (objs : List (Int × VT)) : Prop :=
  ∃ obs : List OB, RowZ w T 5 v objs.length (ocells obs) ∧ (∀ k, v.ownBlock = some k → N ≤ k) ∧ ObsIs w (fun b => N ≤ b ∧ b < w.heap.size ∧ v.ownBlock ≠ some b) obs objs
section
variable {T : TypeId} {w w' : World} {N : Nat} {v : Value} {objs : List (Int × VT)}
theorem OwRow.nil (T : TypeId) (w : World) (N : Nat) : OwRow T w N (.slice none 0 0) [] := ⟨[], RowZ.nil _ _ _, fun k hk => by simp [Value.ownBlock] at hk, rfl, fun j x o hx => by cases hx⟩
theorem OwRow.below (h : OwRow T w N v objs) (hb : Below w.heap.size w w') : OwRow T w' N v objs := by
  obtain ⟨obs, h1, h2, h3⟩ := h
  refine ⟨obs, h1.below hb (fun k hk => h1.lt hk), h2, h3.1, fun j x o hx ho => ⟨(h3.2 j x o hx ho).1, ?_, (h3.2 j x o hx ho).2.2⟩⟩
  exact ((h3.2 j x o hx ho).2.1.below hb (fun b hb => hb.2.1)).mono fun b hb' => ⟨hb'.1, Nat.lt_of_lt_of_le hb'.2.1 hb.size, hb'.2.2⟩
theorem OwRow.lt (h : OwRow T w N v objs) {k : Nat} (hk : v.ownBlock = some k) : N ≤ k ∧ k < w.heap.size := by
  obtain ⟨obs, h1, h2, _⟩ := h
  exact ⟨h2 k hk, h1.lt hk⟩
theorem OwRow.form (h : OwRow T w N v objs) : ∃ ao cap, v = .slice ao objs.length cap := by
  obtain ⟨obs, h1, _⟩ := h
  obtain ⟨ao, cap, e, _⟩ := h1.form
  exact ⟨ao, cap, e⟩
theorem OwRow.at_ (h : OwRow T w N v objs) : ∃ obs, ObAt w v obs ∧ ObsIs w (fun b => b < w.heap.size) obs objs := by
  obtain ⟨obs, h1, h2, h3⟩ := h
  refine ⟨obs, ?_, h3.1, fun j x o hx ho => ⟨(h3.2 j x o hx ho).1, (h3.2 j x o hx ho).2.1.mono fun b hb => hb.2.1, (h3.2 j x o hx ho).2.2⟩⟩
  obtain ⟨ao, cap, rfl, hle, hm, hn, hs⟩ := h1.form
  have hlen := h3.1
  refine ⟨ao, cap, by rw [hlen], by omega, hm, fun e => (hn e).2, fun b off s e => ?_, fun j x hj => ?_⟩
  · subst e
    obtain ⟨g, e2, hg, hgb⟩ := hs _ rfl
    cases e2
    exact ⟨rfl, hg⟩
  · have hjl := (List.getElem?_eq_some_iff.1 hj).1
    cases ao with
    | none => have := (hn rfl).1; omega
    | some a =>
      obtain ⟨g, rfl, hg, hgb⟩ := hs a rfl
      have hol := ocells_length obs
      have c : ∀ r, r < 5 → w.cell? ⟨g, 0 + j * 5 + r, none⟩ = (ocs x)[r]? := fun r hr => by
        rw [Nat.zero_add, ← ocells_get hj hr]
        exact h1.cellAt _ (by rw [hol]; omega)
      exact ⟨g, 0, rfl, c 0 (by omega), c 1 (by omega), c 2 (by omega), c 3 (by omega), c 4 (by omega)⟩
end
theorem infoOg : (Tryz.prog.info? 49).map (fun i => (i.zero, i.size, i.bytes)) = some (some (.agg #[.int .i64 0, .int .i64 0, .int .i64 0, .string ⟨#[]⟩, .slice none 0 0]), 5, 64) := by kernel_rfl
theorem infoO8 : (Tryz.prog.info? 50).map (fun i => (i.zero, i.size, i.bytes)) = some (some (.agg #[.int .i64 0, .int .i64 0, .int .i64 0, .string ⟨#[]⟩, .slice none 0 0]), 5, 64) := by kernel_rfl
theorem cell_five_new (w : World) (a b c d e : Value) (t : TypeId) : ∀ (j : Nat) (u : Value), [a, b, c, d, e][j]? = some u → (w.alloc (.cells #[a, b, c, d, e] t)).cell? (Addr.add ⟨w.heap.size, 0, none⟩ j) = some u := by
  intro j u hj
  have hb := World.alloc_heap_new w (.cells #[a, b, c, d, e] t)
  rw [show (Addr.add ⟨w.heap.size, 0, none⟩ j) = ⟨w.heap.size, j, none⟩ by unfold Addr.add; split <;> simp_all]
  unfold World.cell?
  rw [hb]
  show (#[a, b, c, d, e] : Array Value)[j]? = some u
  rw [← Array.getElem?_toList]
  exact hj
/-- 'append(l, Object{id, v})'. -/
theorem step_obj {T U : TypeId} (hU : Tryz.prog.underlying U = some (.slice T)) (hi : (Tryz.prog.info? T).map (fun i => (i.zero, i.size, i.bytes)) = some (some (.agg #[.int .i64 0, .int .i64 0, .int .i64 0, .string ⟨#[]⟩, .slice none 0 0]), 5, 64))
    {w : World} {ops : Array Oper} {o : Oper} {a : Act} {K : Act → World → Prop} {Q : Exit → Act → World → Prop} {E : Prop} (hgd : o.guard = none) (s x : Operand)
    (ho : o.op = .call { callee := .builtin .append, args := #[s, x], argTypes := #[U, U] }) {N : Nat} {v : Value} {objs : List (Int × VT)} {id : Int} {t : VT} {ao0 : Option Addr} {cap0 : Nat} {ad : Addr} {c : Nat} (hs : a.eval s = v) (hr : OwRow T w N v objs) (hx : a.eval x = .slice (some ad) 1 c)
    (hid : (Lit.int .i64 id).wf = true) (ht : ValIs w (fun b => N ≤ b ∧ b < w.heap.size ∧ v.ownBlock ≠ some b) t (vval t ao0 cap0))
    (hnews : ∀ j u, ([.int .i64 id, .int .i64 t.kind, .int .i64 t.num, .string t.text, .slice ao0 t.kids.length cap0] : List Value)[j]? = some u → w.cell? (ad.add j) = some u) (hN : N ≤ w.heap.size) (h63 : objs.length ≤ 1000000)
    (h : ∀ ao cap w', OwRow T w' N (.slice ao (objs.length + 1) cap) (objs ++ [(id, t)]) → Below N w w' → Chg v.ownBlock.toList w w' → K (a.put o.dst (.slice ao (objs.length + 1) cap)) w') : if Region.wanted o (yielded ops a.tmps) = true then Oper.wp Tryz.prog o a w K Q else E := by
  obtain ⟨obs, h1, h2, h3⟩ := hr
  have h1l := h1.form
  refine step_rows (n := objs.length) (m := 1) (news := ocells [⟨id, t.kind, t.num, t.text, ao0, t.kids.length, cap0⟩]) hgd s x U ho hU hi rfl (by omega) hs h1 hx (.inr ⟨ad, c, rfl, hnews⟩) (by rw [ocells_length]; rfl) (ocells_one _) (by omega) (by omega) ?_
  intro ao cap w' hr' ha
  have hc := ha.chg
  have hb := hc.below hN (fun k hk => h2 k (by simpa using hk))
  refine h ao cap w' ⟨obs ++ [⟨id, t.kind, t.num, t.text, ao0, t.kids.length, cap0⟩], ?_, fun k hk => ?_, ?_, fun j y q hy hq => ?_⟩ hb hc
  · rw [ocells_append, List.length_append, List.length_singleton]; exact hr'
  · rcases ha.out hk with e | e
    · exact h2 k e
    · omega
  · rw [List.length_append, List.length_append, h3.1]; rfl
  · have keep : ∀ {u : VT} {x : Value}, ValIs w (fun b => N ≤ b ∧ b < w.heap.size ∧ v.ownBlock ≠ some b) u x → ValIs w' (fun b => N ≤ b ∧ b < w'.heap.size ∧ (Value.slice ao (objs.length + 1) cap).ownBlock ≠ some b) u x := fun hv =>
      (hv.chg hc (fun b hb => ⟨hb.2.1, by simpa using hb.2.2⟩)).mono fun b hb => ⟨hb.1, Nat.lt_of_lt_of_le hb.2.1 hc.size, fun e => by
        rcases ha.out e with e | e
        · exact hb.2.2 e
        · have := hb.2.1; omega⟩
    have hl := h3.1
    by_cases hi : j < objs.length
    · rw [List.getElem?_append_left (by omega)] at hy
      rw [List.getElem?_append_left hi] at hq
      have := h3.2 j y q hy hq
      exact ⟨this.1, keep this.2.1, this.2.2⟩
    · have : j = objs.length := by
        have := (List.getElem?_eq_some_iff.1 hq).1
        simp at this; omega
      subst this
      rw [List.getElem?_append_right (by omega), hl, Nat.sub_self] at hy
      rw [List.getElem?_append_right (Nat.le_refl _), Nat.sub_self] at hq
      cases hy; cases hq
      exact ⟨rfl, keep ht, hid⟩
theorem box_four (w5 : World) (k n : Int) (s : ByteArray) (sl : Value) (T : TypeId) (W : World) (hW : Below (w5.heap.size + 1) (w5.alloc (.cells #[.int .i64 k, .int .i64 n, .string s, sl] T)) W) : W.cell? ⟨w5.heap.size, 0, none⟩ = some (.int .i64 k) ∧ W.cell? ⟨w5.heap.size, 1, none⟩ = some (.int .i64 n) ∧ W.cell? ⟨w5.heap.size, 2, none⟩ = some (.string s) ∧ W.cell? ⟨w5.heap.size, 3, none⟩ = some sl := by
  have h := (hW.block w5.heap.size (by omega)).trans (World.alloc_heap_new w5 _)
  exact ⟨by simp [World.cell?, h], by simp [World.cell?, h], by simp [World.cell?, h], by simp [World.cell?, h]⟩
def tmO (o : Int × VT) : Int × VT := (o.1, (o.2.tame 200 100).1)
def ToO (T : TypeId) (w : World) (l : List (Int × VT)) (m : Nat) (gk : Nat) (s3 s4 : Value) (wr : World) : Prop :=
  ∃ i : Nat, s4 = .int .i64 (i : Int) ∧ i + gk = m ∧ OwRow T wr w.heap.size s3 ((l.take i).map tmO) ∧ Below w.heap.size w wr
theorem tame_form {w : World} {P : Nat → Prop} {t : VT} {v : Value} (h : ValIs w P t v) : ∃ ao cap, v = .agg #[.int .i64 t.kind, .int .i64 t.num, .string t.text, .slice ao t.kids.length cap] := h.form
set_option maxRecDepth 100000 in
set_option maxHeartbeats 8000000 in
theorem toObjects_any (w : World) (v : Value) (obs : List OB) (objs : List (Int × VT)) (h : ObAt w v obs) (hi : ObsIs w (fun b => b < w.heap.size) obs objs) (hl : objs.length ≤ 1000000) : Calls Tryz.prog 7 #[v] w fun e w' => ∃ v', e = .returned v' ∧ OwRow 49 w' w.heap.size v' (objs.map tmO) ∧ Below w.heap.size w w' := by
  obtain ⟨ao, cap, rfl, _, _, _, hbl0, hcc⟩ := h
  have HCC := Lib.hid hcc
  have HBL := Lib.hid hbl0
  have HOI := Lib.hid hi.2
  have hlen := hi.1
  rw [hlen] at *
  have hl2 : (objs.length : Int) ≤ 1000000 := by omega
  have HLE : Hid (obs.length = objs.length) := hi.1
  clear hl hcc hi hbl0 hlen
  go_enter Tryz.func7, Tryz.ntmps7
  go_wp2
  go_loopg [3, 4] objs.length (fun gk s3 s4 wr => ToO 49 w objs objs.length gk s3 s4 wr)
  case atStart => exact ⟨0, rfl, by omega, OwRow.nil _ _ _, Below.refl _ _⟩
  case round =>
    obtain ⟨i, rfl, hi, hrow, hb⟩ := hrel
    have HI := Lib.hid hi
    have HROW := Lib.hid hrow
    have HB := Lib.hid hb
    obtain ⟨a3, c3q, e3⟩ := hrow.form
    subst e3
    have i0 : (0 : Int) ≤ (i : Int) := by omega
    by_cases hlt : i < objs.length
    · have i1 : (i : Int) < (objs.length : Int) := by omega
      obtain ⟨r, hr⟩ : ∃ r, objs[i]? = some r := ⟨_, List.getElem?_eq_getElem hlt⟩
      obtain ⟨x, hx⟩ : ∃ r, obs[i]? = some r := ⟨_, List.getElem?_eq_getElem (by have := HLE.out; omega)⟩
      obtain ⟨b, off, rfl, d0, d1, d2, d3, d4⟩ := HCC.out i x hx
      have hbl := (HBL.out b off none rfl).2
      obtain ⟨hid, hval, hwf⟩ := HOI.out i x r hx hr
      have c0 : ∀ W, Below w.heap.size wr W → W.cell? ⟨b, off + i * 5, none⟩ = some (.int .i64 r.1) := fun W hW => ((hb.trans hW).cell (p := ⟨b, off + i * 5, none⟩) hbl).trans (by rw [← hid]; exact d0)
      have C0 := Lib.hid c0
      obtain ⟨q, hq⟩ : ∃ q, r.2.tame 200 100 = q := ⟨_, rfl⟩
      have HT : Hid (∀ W, Below w.heap.size w W → Calls Tryz.prog 18 #[.agg #[.int .i64 x.k, .int .i64 x.n, .string x.s, .slice x.ao x.len x.cap], .int .i64 200, .int .i64 100] W (TameEnd W (r.2.tame 200 100))) := fun W hW => tame_walk r.2.sz r.2 _ W _ 200 100 (Nat.le_refl _) (hval.below hW (fun b h => h)) (fun b hb => Nat.lt_of_lt_of_le hb hW.size) (by decide) (by decide) (by decide) (by decide)
      rw [hq] at HT
      have HQ : Hid (tmO r = (r.1, q.1)) := by show _ = _; unfold tmO; rw [hq]
      clear hq
      obtain ⟨⟨kk, kn, ks, kl⟩, ql⟩ := q
      have c1 : wr.cell? ⟨b, off + i * 5 + 1, none⟩ = some (.int .i64 x.k) := (hb.cell (p := ⟨b, off + i * 5 + 1, none⟩) hbl).trans d1
      have c2 : wr.cell? ⟨b, off + i * 5 + 1 + 1, none⟩ = some (.int .i64 x.n) := (hb.cell (p := ⟨b, off + i * 5 + 1 + 1, none⟩) hbl).trans d2
      have c3 : wr.cell? ⟨b, off + i * 5 + 1 + 2, none⟩ = some (.string x.s) := (hb.cell (p := ⟨b, off + i * 5 + 1 + 2, none⟩) hbl).trans d3
      have c4 : wr.cell? ⟨b, off + i * 5 + 1 + 3, none⟩ = some (.slice x.ao x.len x.cap) := (hb.cell (p := ⟨b, off + i * 5 + 1 + 3, none⟩) hbl).trans d4
      have HWF : Hid ((Lit.int .i64 r.1).wf = true) := by rw [← hid]; exact hwf
      have HR := Lib.hid hr
      have HLT := Lib.hid hlt
      have HSZ : Hid (w.heap.size ≤ wr.heap.size) := hb.size
      have htl : ((objs.take i).map tmO).length = i := by rw [List.length_map, List.length_take]; omega
      rw [htl] at HROW
      have HTL := Lib.hid htl
      clear hrow hb hi hr hlt hbl d0 d1 d2 d3 d4 htl hx hid hval hwf c0
      rw [HTL.out]
      go_wp2_with ((go_at_call 18; refine (HT.out _ HB.out).mono ?_; rintro e w5 ⟨v5, rfl, hv5, hb5⟩; obtain ⟨ao5, cap5, rfl⟩ := tame_form hv5; have HV5 := Lib.hid hv5; have HB5 := Lib.hid hb5; clear hv5 hb5))
      dsimp only [VT.kind, VT.num, VT.text, VT.kids] at HV5 ⊢
      have HS : Hid (∀ W, Below (w5.heap.size + 1) (w5.alloc (.cells #[.int .i64 kk, .int .i64 kn, .string ks, .slice ao5 kl.length cap5] 47)) W → W.cell? ⟨b, off + i * 5, none⟩ = some (.int .i64 r.1) ∧ W.cell? ⟨w5.heap.size, 0, none⟩ = some (.int .i64 kk) ∧ W.cell? ⟨w5.heap.size, 1, none⟩ = some (.int .i64 kn) ∧ W.cell? ⟨w5.heap.size, 2, none⟩ = some (.string ks) ∧ W.cell? ⟨w5.heap.size, 3, none⟩ = some (.slice ao5 kl.length cap5)) := fun W hW =>
        ⟨C0.out W (((HB5.out.mono HB.out.size).alloc (Nat.le_trans HB.out.size HB5.out.size) _).trans (hW.mono (by have := HB.out.size; have := HB5.out.size; omega))), box_four w5 _ _ _ _ _ W hW⟩
      have HBW : Hid (Below w.heap.size wr w5) := HB5.out.mono HB.out.size
      have HW6 : Hid (OwRow 49 w5 w.heap.size (.slice a3 i c3q) ((objs.take i).map tmO)) := HROW.out.below HB5.out
      obtain ⟨W6, hW6⟩ : ∃ W6, W6 = (w5.alloc (.cells #[.int .i64 kk, .int .i64 kn, .string ks, .slice ao5 kl.length cap5] 47)).drew.alloc (.cells #[.int .i64 r.1, .int .i64 kk, .int .i64 kn, .string ks, .slice ao5 kl.length cap5] 49) := ⟨_, rfl⟩
      have h56 : Below w5.heap.size w5 W6 := by rw [hW6]; exact (((Below.refl _ _).alloc (Nat.le_refl _) _).drew).alloc (by simp) _
      have h66 : Below (w5.heap.size + 1) (w5.alloc (.cells #[.int .i64 kk, .int .i64 kn, .string ks, .slice ao5 kl.length cap5] 47)) W6 := by rw [hW6]; exact ((Below.refl _ _).drew).alloc (by simp) _
      have H66 := Lib.hid h66
      have HR6 : Hid (OwRow 49 W6 w.heap.size (.slice a3 i c3q) ((objs.take i).map tmO)) := HW6.out.below h56
      have HVV : Hid (ValIs W6 (fun b => w.heap.size ≤ b ∧ b < W6.heap.size ∧ (Value.slice a3 i c3q).ownBlock ≠ some b) (.node kk kn ks kl) (vval (.node kk kn ks kl) ao5 cap5)) :=
        (HV5.out.below h56 (fun b hb => hb.2)).mono fun b hb => ⟨Nat.le_trans HB.out.size hb.1, Nat.lt_of_lt_of_le hb.2 h56.size, fun e => by have := (HROW.out.lt e).2; omega⟩
      have hnw : (∀ j u, ([.int .i64 r.1, .int .i64 kk, .int .i64 kn, .string ks, .slice ao5 kl.length cap5] : List Value)[j]? = some u → W6.cell? (Addr.add ⟨w5.heap.size + 1, 0, none⟩ j) = some u) := by
        have := cell_five_new (w5.alloc (.cells #[.int .i64 kk, .int .i64 kn, .string ks, .slice ao5 kl.length cap5] 47)).drew (.int .i64 r.1) (.int .i64 kk) (.int .i64 kn) (.string ks) (.slice ao5 kl.length cap5) 49
        rw [← hW6] at this
        simpa using this
      have HNW := Lib.hid hnw
      clear hnw
      have hw5 : w.heap.size ≤ w5.heap.size := Nat.le_trans HB.out.size HB5.out.size
      have HN6 : Hid (w.heap.size ≤ W6.heap.size) := Nat.le_trans hw5 h56.size
      have HB6 : Hid (Below w.heap.size w5 W6) := h56.mono hw5
      have HS9 : Hid (∀ w9, Chg (Value.slice a3 i c3q).ownBlock.toList W6 w9 → w9.cell? ⟨b, off + i * 5, none⟩ = some (.int .i64 r.1) ∧ w9.cell? ⟨w5.heap.size, 0, none⟩ = some (.int .i64 kk) ∧ w9.cell? ⟨w5.heap.size, 1, none⟩ = some (.int .i64 kn) ∧ w9.cell? ⟨w5.heap.size, 2, none⟩ = some (.string ks) ∧ w9.cell? ⟨w5.heap.size, 3, none⟩ = some (.slice ao5 kl.length cap5)) := fun w9 hc => by
        obtain ⟨s0, s1, s2, s3, s4⟩ := HS.out W6 h66
        have hbl := (HBL.out b off none rfl).2
        have hsz := h56.size
        have hsz2 := h66.size
        have hs5 := HB5.out.size
        have hs6 : w5.heap.size + 1 ≤ W6.heap.size := by simpa using hsz2
        have n1 : b ∉ (Value.slice a3 i c3q).ownBlock.toList := fun h => by have := (HROW.out.lt (by simpa using h)).1; omega
        have n2 : w5.heap.size ∉ (Value.slice a3 i c3q).ownBlock.toList := fun h => by have := (HROW.out.lt (by simpa using h)).2; omega
        exact ⟨(hc.cell (p := ⟨b, off + i * 5, none⟩) (by show b < _; omega) n1).trans s0, (hc.cell (p := ⟨w5.heap.size, 0, none⟩) (by show w5.heap.size < _; omega) n2).trans s1, (hc.cell (p := ⟨w5.heap.size, 1, none⟩) (by show w5.heap.size < _; omega) n2).trans s2, (hc.cell (p := ⟨w5.heap.size, 2, none⟩) (by show w5.heap.size < _; omega) n2).trans s3, (hc.cell (p := ⟨w5.heap.size, 3, none⟩) (by show w5.heap.size < _; omega) n2).trans s4⟩
      have HT6 : Hid (((objs.take i).map tmO).length ≤ 1000000) := by show _ ≤ _; rw [HTL.out]; have := HLT.out; omega
      clear h56 h66 c1 c2 c3 c4
      subst hW6
      go_region_held3 (fun w' => w'.cell? ⟨b, off + i * 5, none⟩ = some (.int .i64 r.1) ∧ w'.cell? ⟨w5.heap.size, 0, none⟩ = some (.int .i64 kk) ∧ w'.cell? ⟨w5.heap.size, 1, none⟩ = some (.int .i64 kn) ∧ w'.cell? ⟨w5.heap.size, 2, none⟩ = some (.string ks) ∧ w'.cell? ⟨w5.heap.size, 3, none⟩ = some (.slice ao5 kl.length cap5))
        (first | exact HS.out _ (Below.refl _ _) | exact HS.out _ (Below.refl _ _).drew | exact HS.out _ ((Below.refl _ _).drew.alloc (by simp) _) | exact HB9.out)
        (first
          | (refine step_obj (w := (w5.alloc (.cells #[.int .i64 kk, .int .i64 kn, .string ks, .slice ao5 kl.length cap5] 47)).drew.alloc (.cells #[.int .i64 r.1, .int .i64 kk, .int .i64 kn, .string ks, .slice ao5 kl.length cap5] 49)) (N := w.heap.size) (objs := (objs.take i).map tmO) (id := r.1) (t := .node kk kn ks kl) (ao0 := ao5) (cap0 := cap5) (v := .slice a3 i c3q) (ad := ⟨w5.heap.size + 1, 0, none⟩) (c := 1) Tryz.underlying26 infoOg rfl _ _ rfl rfl HR6.out rfl HWF.out HVV.out HNW.out HN6.out HT6.out ?_; rw [HTL.out]; intro a9 c9 w9 hr9 hb9 hc9; have HR9 := Lib.hid hr9; have HB9 := Lib.hid (HS9.out _ hc9); have HB10 := Lib.hid hb9; clear hr9 hb9 hc9))
      go_wp2
      go_roundg (gk - 1)
      case measure => have := HI.out; have := HLT.out; omega
      case rel => exact ⟨i + 1, by go_num, by have := HI.out; have := HLT.out; omega, by rw [List.take_add_one, HR.out, List.map_append, Option.toList_some, List.map_cons, List.map_nil, HQ.out]; exact HR9.out, HB.out.trans (HBW.out.trans (HB6.out.trans HB10.out))⟩
    · have i1 : ¬ (i : Int) < (objs.length : Int) := by omega
      have hz : objs.take i = objs := List.take_of_length_le (by omega)
      rw [hz, List.length_map] at HROW ⊢
      clear hz hrow hb hi hlt
      go_wp2
      go_ret
      exact ⟨_, rfl, HROW.out, HB.out⟩
end Go.Proofs.YtenikoecnfbfoaaGreatDoor
/- Layer 8: the law's few. -/
namespace Go.Proofs.YtenikoecnfbfoaaGreatDoor
open Go.RowKit
set_option linter.unusedVariables false
set_option linter.unusedSimpArgs false
open Gr (RT)
def keepR (r : RT) : Bool := decide (r.name.length < 2000) && decide (r.typ.length < 2000)
def fewR (l : List RT) : List RT := (l.take 30).filter keepR
def fewO (o : List (Int × VT)) : List (Int × VT) := (o.take 30).map tmO
theorem fewR_len (l : List RT) : (fewR l).length ≤ 30 := by
  have h1 := List.length_filter_le keepR (l.take 30)
  have h2 : (l.take 30).length ≤ 30 := by rw [List.length_take]; omega
  unfold fewR; omega
theorem fewO_len (l : List (Int × VT)) : (fewO l).length ≤ 30 := by
  unfold fewO; rw [List.length_map, List.length_take]; omega
theorem filt_len (l : List RT) : (l.filter keepR).length ≤ l.length := List.length_filter_le _ _
/-- Roots and objects that came in, as few reads them. -/
def RtIn (w : World) (v : Value) (l : List RT) : Prop :=
  ∃ ao cap, v = .slice ao l.length cap ∧ l.length ≤ maxLen ∧ ∀ (j : Nat) r, l[j]? = some r → ∃ b off, ao = some ⟨b, off, none⟩ ∧ b < w.heap.size ∧ w.cell? ⟨b, off + j * 3, none⟩ = some (.string (bytes r.name)) ∧ w.cell? ⟨b, off + j * 3 + 1, none⟩ = some (.string (bytes r.typ)) ∧ w.cell? ⟨b, off + j * 3 + 2, none⟩ = some (.int .i64 r.id) ∧ (Lit.int .i64 r.id).wf = true
def ObIn (w : World) (v : Value) (l : List (Int × VT)) : Prop :=
  ∃ ao cap, v = .slice ao l.length cap ∧ l.length ≤ maxLen ∧ ∀ (j : Nat) o, l[j]? = some o → ∃ b off x, ao = some ⟨b, off, none⟩ ∧ b < w.heap.size ∧ x.id = o.1 ∧ (Lit.int .i64 x.id).wf = true ∧ ObCells w b off j x ∧ ValIs w (fun b => b < w.heap.size) o.2 (obV x)
theorem ObIn.nil (w : World) : ObIn w (.slice none 0 0) [] := ⟨none, 0, rfl, by simp, fun j o hj => by cases hj⟩
theorem RtIn.below {w W : World} {v : Value} {l : List RT} (h : RtIn w v l) (hb : Below w.heap.size w W) : RtIn W v l := by
  obtain ⟨ao, cap, e, hl, h⟩ := h
  refine ⟨ao, cap, e, hl, fun j r hj => ?_⟩
  obtain ⟨b, off, e, hbl, c0, c1, c2, hw⟩ := h j r hj
  exact ⟨b, off, e, Nat.lt_of_lt_of_le hbl hb.size, (hb.cell (p := ⟨b, off + j * 3, none⟩) hbl).trans c0, (hb.cell (p := ⟨b, off + j * 3 + 1, none⟩) hbl).trans c1, (hb.cell (p := ⟨b, off + j * 3 + 2, none⟩) hbl).trans c2, hw⟩
theorem ObIn.below {w W : World} {v : Value} {l : List (Int × VT)} (h : ObIn w v l) (hb : Below w.heap.size w W) : ObIn W v l := by
  obtain ⟨ao, cap, e, hl, h⟩ := h
  refine ⟨ao, cap, e, hl, fun j o hj => ?_⟩
  obtain ⟨b, off, x, e, hbl, hi, hw, ⟨c0, c1, c2, c3, c4⟩, hv⟩ := h j o hj
  exact ⟨b, off, x, e, Nat.lt_of_lt_of_le hbl hb.size, hi, hw, ⟨(hb.cell (p := ⟨b, off + j * 5, none⟩) hbl).trans c0, (hb.cell (p := ⟨b, off + j * 5 + 1, none⟩) hbl).trans c1, (hb.cell (p := ⟨b, off + j * 5 + 2, none⟩) hbl).trans c2, (hb.cell (p := ⟨b, off + j * 5 + 3, none⟩) hbl).trans c3, (hb.cell (p := ⟨b, off + j * 5 + 4, none⟩) hbl).trans c4⟩,
    (hv.below hb (fun b hb => hb)).mono fun b h => Nat.lt_of_lt_of_le h hb.size⟩
def FwI (w : World) (l : List RT) (m gk : Nat) (s6 s8 : Value) (wr : World) : Prop :=
  ∃ i : Nat, s8 = .int .i64 (i : Int) ∧ i + gk = m ∧ RtRow 66 wr w.heap.size s6 ((l.take i).filter keepR) ∧ Below w.heap.size w wr
def FewEnd (w : World) (l : List RT) (o : List (Int × VT)) (e : Ending) (w' : World) : Prop :=
  ∃ v1 v2, e = .returned (.tuple #[v1, v2]) ∧ RtRow 66 w' w.heap.size v1 (fewR l) ∧ OwRow 50 w' w.heap.size v2 (fewO o) ∧ Below w.heap.size w w'
/-- 'append(l, r)' in a plain region. -/
theorem wpList_root {T U : TypeId} (hU : Tryz.prog.underlying U = some (.slice T)) (hi : (Tryz.prog.info? T).map (fun i => (i.zero, i.size, i.bytes)) = some (some (.agg #[.string ⟨#[]⟩, .string ⟨#[]⟩, .int .i64 0]), 3, 40))
    {w : World} {ops : Array Oper} {rest : List Oper} {o : Oper} {a : Act} {Q : Exit → Act → World → Prop} (hgd : o.guard = none) (s x : Operand)
    (ho : o.op = .call { callee := .builtin .append, args := #[s, x], argTypes := #[U, U] }) {N : Nat} {v : Value} {l : List RT} {r : RT} {ad : Addr} {c : Nat} (hs : a.eval s = v) (hr : RtRow T w N v l) (hx : a.eval x = .slice (some ad) 1 c)
    (hnews : ∀ j u, (rtcells [r])[j]? = some u → w.cell? (ad.add j) = some u) (hN : N ≤ w.heap.size) (h63 : l.length ≤ 1000000)
    (h : ∀ ao cap w', RtRow T w' N (.slice ao (l.length + 1) cap) (l ++ [r]) → Below N w w' → Chg v.ownBlock.toList w w' → wpList Tryz.prog ops Q rest (a.put o.dst (.slice ao (l.length + 1) cap)) w') : wpList Tryz.prog ops Q (o :: rest) a w := by
  refine wpList_rows (n := l.length) (m := 1) (news := rtcells [r]) hgd s x U ho hU hi rfl (by omega) hs hr.1 hx (.inr ⟨ad, c, rfl, hnews⟩) (by rw [rtcells_length]; rfl) (rtcells_one _) (by omega) (by omega) ?_
  intro ao cap w' hr' ha
  have hb := ha.chg.below hN (fun k hk => hr.2 k (by simpa using hk))
  refine h ao cap w' ⟨?_, fun k hk => ?_⟩ hb ha.chg
  · rw [rtcells_append, List.length_append, List.length_singleton]; exact hr'
  · rcases ha.out hk with e | e
    · exact hr.2 k e
    · omega
set_option maxRecDepth 100000 in
set_option maxHeartbeats 8000000 in
theorem few_any (w : World) (vr vo : Value) (l : List RT) (objs : List (Int × VT)) (hr : RtIn w vr l) (ho : ObIn w vo objs) : Calls Tryz.prog 6 #[vr, vo] w (FewEnd w l objs) := by
  obtain ⟨ar, cr, rfl, hlr, hcr⟩ := hr
  have HOB := Lib.hid ho
  obtain ⟨ao, cap, rfl, hlo, hcc⟩ := ho
  have HCR := Lib.hid hcr
  have hl2 : (l.length : Int) ≤ 9223372036854775807 := by unfold maxLen at hlr; omega
  have hl3 : (objs.length : Int) ≤ 9223372036854775807 := by unfold maxLen at hlo; omega
  clear hcc hcr hlr hlo
  go_enter Tryz.func6, Tryz.ntmps6
  obtain ⟨m, hm⟩ : ∃ m, m = min l.length 30 := ⟨_, rfl⟩
  go_upto_block 0 with (fail)
  go_cut [6] (fun s6 wx => RtRow 66 wx w.heap.size s6 (fewR l) ∧ Below w.heap.size w wx)
  case first =>
    go_wp2
    go_loopg [6, 8] m (fun gk s6 s8 wr => FwI w l m gk s6 s8 wr)
    case atStart => exact ⟨0, rfl, by omega, RtRow.nil _ _ _, Below.refl _ _⟩
    case round =>
      obtain ⟨i, rfl, hi, hrow, hb⟩ := hrel
      have HI := Lib.hid hi
      have HROW := Lib.hid hrow
      have HB := Lib.hid hb
      obtain ⟨a3, c3, e3, _⟩ := hrow.at_
      subst e3
      have i0 : (0 : Int) ≤ (i : Int) := by omega
      by_cases hlt : i < m
      · have i1 : (i : Int) < (l.length : Int) := by omega
        have i2 : (i : Int) < 30 := by omega
        obtain ⟨r, hr⟩ : ∃ r, l[i]? = some r := ⟨_, List.getElem?_eq_getElem (by omega)⟩
        obtain ⟨b, off, rfl, hbl, d0, d1, d2, _⟩ := HCR.out i r hr
        have hS : ∀ W, Below w.heap.size wr W → W.cell? ⟨b, off + i * 3, none⟩ = some (.string (bytes r.name)) ∧ W.cell? ⟨b, off + i * 3 + 1, none⟩ = some (.string (bytes r.typ)) ∧ W.cell? ⟨b, off + i * 3 + 2, none⟩ = some (.int .i64 r.id) := fun W hW =>
          ⟨((hb.trans hW).cell (p := ⟨b, off + i * 3, none⟩) hbl).trans d0, ((hb.trans hW).cell (p := ⟨b, off + i * 3 + 1, none⟩) hbl).trans d1, ((hb.trans hW).cell (p := ⟨b, off + i * 3 + 2, none⟩) hbl).trans d2⟩
        have HS := Lib.hid hS
        have HR := Lib.hid hr
        have HLT := Lib.hid hlt
        have HM := Lib.hid hm
        have HSZ : Hid (w.heap.size ≤ wr.heap.size) := hb.size
        have htk : l.take (i + 1) = l.take i ++ [r] := by rw [List.take_add_one, hr]; rfl
        have HTK := Lib.hid htk
        have htl : ((l.take i).filter keepR).length ≤ 30 := by have h1 := List.length_filter_le keepR (l.take i); rw [List.length_take] at h1; omega
        obtain ⟨row, hrw⟩ : ∃ row, (l.take i).filter keepR = row := ⟨_, rfl⟩
        have HRW := Lib.hid hrw
        rw [hrw] at htl HROW ⊢
        have HTL := Lib.hid htl
        have c0 := (hS wr (Below.refl _ _)).1
        have c1 := (hS wr (Below.refl _ _)).2.1
        have c2 := (hS wr (Below.refl _ _)).2.2
        have t0 := bytes_size r.name
        have t1 := bytes_size r.typ
        have HT0 := Lib.hid t0
        have HT1 := Lib.hid t1
        clear hrow hb hi hS hr hlt hbl d0 d1 d2 htl hrw htk t0 t1 hm
        cases hk : keepR r with
        | true =>
          have hk' := hk
          simp only [keepR, Bool.and_eq_true, decide_eq_true_eq] at hk'
          have k1 : (((bytes r.name).size : Nat) : Int) < 2000 := by rw [HT0.out]; omega
          have k2 : (((bytes r.typ).size : Nat) : Int) < 2000 := by rw [HT1.out]; omega
          have HK := Lib.hid hk
          clear hk hk'
          go_wp2_with (at_builtin; (refine wpList_root (N := w.heap.size) (l := row) (r := r) (v := .slice a3 row.length c3) (ad := ⟨wr.heap.size, 0, none⟩) (c := 1) Tryz.underlying22 infoRt8 rfl _ _ rfl rfl (HROW.out.below ((Below.refl _ _).alloc (Nat.le_refl _) _)) rfl (cell_three_new wr _ _ _ _) (by have := HSZ.out; simp; omega) (by have := HTL.out; omega) ?_; intro a9 c9 w9 hr9 hb9 hc9; have HR9 := Lib.hid hr9; have HB9 := Lib.hid (((Below.refl _ _).alloc HSZ.out _).trans hb9); clear hr9 hb9 hc9))
          go_roundg (gk - 1)
          case measure => have := HI.out; have := HLT.out; omega
          case rel => exact ⟨i + 1, by go_num, by have := HI.out; have := HLT.out; omega, by rw [HTK.out, List.filter_append, HRW.out, List.filter_cons_of_pos HK.out]; exact HR9.out, HB.out.trans HB9.out⟩
        | false =>
          have HK := Lib.hid hk
          have hrel2 : Hid (FwI w l m (gk - 1) (.slice a3 row.length c3) (.int .i64 ((i + 1 : Nat) : Int)) wr) :=
            ⟨i + 1, rfl, by have := HI.out; have := HLT.out; omega, by rw [HTK.out, List.filter_append, HRW.out, List.filter_cons_of_neg (by rw [HK.out]; decide), List.filter_nil, List.append_nil]; exact HROW.out, HB.out⟩
          by_cases k1 : (((bytes r.name).size : Nat) : Int) < 2000
          · have k2 : ¬ (((bytes r.typ).size : Nat) : Int) < 2000 := fun k2 => by
              rw [HT0.out] at k1; rw [HT1.out] at k2
              have : keepR r = true := by simp only [keepR, Bool.and_eq_true, decide_eq_true_eq]; omega
              rw [HK.out] at this; cases this
            clear hk
            go_wp2
            go_roundg (gk - 1)
            case measure => have := HI.out; have := HLT.out; omega
            case rel => exact hrel2.out
          · clear hk
            go_wp2
            go_roundg (gk - 1)
            case measure => have := HI.out; have := HLT.out; omega
            case rel => exact hrel2.out
      · have htk : l.take i = l.take 30 := by
          by_cases h30 : l.length ≤ 30
          · rw [List.take_of_length_le (by omega), List.take_of_length_le h30]
          · have : i = 30 := by omega
            rw [this]
        have hfin : Hid (RtRow 66 wr w.heap.size (.slice a3 ((l.take i).filter keepR).length c3) (fewR l)) := by
          have h := HROW.out
          have e : (l.take i).filter keepR = fewR l := by rw [htk]; rfl
          rw [e] at h ⊢
          exact h
        clear hrow hb hi
        by_cases hil : i < l.length
        · have i1 : (i : Int) < (l.length : Int) := by omega
          have i2 : ¬ (i : Int) < 30 := by omega
          clear hlt htk hil hm
          go_wp2
          all_goals (go_meet; exact ⟨hfin.out, HB.out⟩)
        · have i1 : ¬ (i : Int) < (l.length : Int) := by omega
          clear hlt htk hil hm
          go_wp2
          all_goals (go_meet; exact ⟨hfin.out, HB.out⟩)
  case rest =>
    obtain ⟨hrow1, hb1⟩ := hcut
    obtain ⟨a6, c6, e6, _⟩ := hrow1.at_
    subst e6
    have HR1 := Lib.hid hrow1
    have HB1 := Lib.hid hb1
    have HCC : Hid (∀ (j : Nat) o, objs[j]? = some o → ∃ b off x, ao = some ⟨b, off, none⟩ ∧ b < wc.heap.size ∧ x.id = o.1 ∧ (Lit.int .i64 x.id).wf = true ∧ ObCells wc b off j x ∧ ValIs wc (fun b => b < wc.heap.size) o.2 (obV x)) := by
      obtain ⟨_, _, e, _, h⟩ := HOB.out.below hb1
      cases e
      exact h
    clear hrow1 hb1 HOB
    obtain ⟨m2, hm2⟩ : ∃ m, m = min objs.length 30 := ⟨_, rfl⟩
    go_wp2
    go_loopg [7, 9] m2 (fun gk s7 s9 wr => ToO 50 wc objs m2 gk s7 s9 wr)
    case atStart => exact ⟨0, rfl, by omega, OwRow.nil _ _ _, Below.refl _ _⟩
    case round =>
      obtain ⟨i, rfl, hi, hrow, hb⟩ := hrel
      have HI := Lib.hid hi
      have HROW := Lib.hid hrow
      have HB := Lib.hid hb
      obtain ⟨a3, c3q, e3⟩ := hrow.form
      subst e3
      have i0 : (0 : Int) ≤ (i : Int) := by omega
      by_cases hlt : i < m2
      · have i1 : (i : Int) < (objs.length : Int) := by omega
        have i2 : (i : Int) < 30 := by omega
        have hil : i < objs.length := by omega
        obtain ⟨r, hr⟩ : ∃ r, objs[i]? = some r := ⟨_, List.getElem?_eq_getElem hil⟩
        obtain ⟨b, off, x, rfl, hbl, hid, hwf, ⟨d0, d1, d2, d3, d4⟩, hval⟩ := HCC.out i r hr
        have c0 : ∀ W, Below wc.heap.size wr W → W.cell? ⟨b, off + i * 5, none⟩ = some (.int .i64 r.1) := fun W hW => ((hb.trans hW).cell (p := ⟨b, off + i * 5, none⟩) hbl).trans (by rw [← hid]; exact d0)
        have C0 := Lib.hid c0
        obtain ⟨q, hq⟩ : ∃ q, r.2.tame 200 100 = q := ⟨_, rfl⟩
        have HT : Hid (∀ W, Below wc.heap.size wc W → Calls Tryz.prog 18 #[.agg #[.int .i64 x.k, .int .i64 x.n, .string x.s, .slice x.ao x.len x.cap], .int .i64 200, .int .i64 100] W (TameEnd W (r.2.tame 200 100))) := fun W hW => tame_walk r.2.sz r.2 _ W _ 200 100 (Nat.le_refl _) (hval.below hW (fun b h => h)) (fun b hb => Nat.lt_of_lt_of_le hb hW.size) (by decide) (by decide) (by decide) (by decide)
        rw [hq] at HT
        have HQ : Hid (tmO r = (r.1, q.1)) := by show _ = _; unfold tmO; rw [hq]
        clear hq
        obtain ⟨⟨kk, kn, ks, kl⟩, ql⟩ := q
        have c1 : wr.cell? ⟨b, off + i * 5 + 1, none⟩ = some (.int .i64 x.k) := (hb.cell (p := ⟨b, off + i * 5 + 1, none⟩) hbl).trans d1
        have c2 : wr.cell? ⟨b, off + i * 5 + 1 + 1, none⟩ = some (.int .i64 x.n) := (hb.cell (p := ⟨b, off + i * 5 + 1 + 1, none⟩) hbl).trans d2
        have c3 : wr.cell? ⟨b, off + i * 5 + 1 + 2, none⟩ = some (.string x.s) := (hb.cell (p := ⟨b, off + i * 5 + 1 + 2, none⟩) hbl).trans d3
        have c4 : wr.cell? ⟨b, off + i * 5 + 1 + 3, none⟩ = some (.slice x.ao x.len x.cap) := (hb.cell (p := ⟨b, off + i * 5 + 1 + 3, none⟩) hbl).trans d4
        have HWF : Hid ((Lit.int .i64 r.1).wf = true) := by rw [← hid]; exact hwf
        have HR := Lib.hid hr
        have HLT := Lib.hid hlt
        have HB30 : Hid (i < 30) := by show _ < _; omega
        have HBO : Hid (b < wc.heap.size) := hbl
        have HSZ : Hid (wc.heap.size ≤ wr.heap.size) := hb.size
        have htl : ((objs.take i).map tmO).length = i := by rw [List.length_map, List.length_take]; omega
        rw [htl] at HROW
        have HTL := Lib.hid htl
        clear hrow hb hi hr hlt hbl d0 d1 d2 d3 d4 htl hid hval hwf c0 hil
        rw [HTL.out]
        go_wp2_with ((go_at_call 18; refine (HT.out _ HB.out).mono ?_; rintro e w5 ⟨v5, rfl, hv5, hb5⟩; obtain ⟨ao5, cap5, rfl⟩ := tame_form hv5; have HV5 := Lib.hid hv5; have HB5 := Lib.hid hb5; clear hv5 hb5))
        dsimp only [VT.kind, VT.num, VT.text, VT.kids] at HV5 ⊢
        have HS : Hid (∀ W, Below (w5.heap.size + 1) (w5.alloc (.cells #[.int .i64 kk, .int .i64 kn, .string ks, .slice ao5 kl.length cap5] 47)) W → W.cell? ⟨b, off + i * 5, none⟩ = some (.int .i64 r.1) ∧ W.cell? ⟨w5.heap.size, 0, none⟩ = some (.int .i64 kk) ∧ W.cell? ⟨w5.heap.size, 1, none⟩ = some (.int .i64 kn) ∧ W.cell? ⟨w5.heap.size, 2, none⟩ = some (.string ks) ∧ W.cell? ⟨w5.heap.size, 3, none⟩ = some (.slice ao5 kl.length cap5)) := fun W hW =>
          ⟨C0.out W (((HB5.out.mono HB.out.size).alloc (Nat.le_trans HB.out.size HB5.out.size) _).trans (hW.mono (by have := HB.out.size; have := HB5.out.size; omega))), box_four w5 _ _ _ _ _ W hW⟩
        have HBW : Hid (Below wc.heap.size wr w5) := HB5.out.mono HB.out.size
        have HW6 : Hid (OwRow 50 w5 wc.heap.size (.slice a3 i c3q) ((objs.take i).map tmO)) := HROW.out.below HB5.out
        obtain ⟨W6, hW6⟩ : ∃ W6, W6 = (w5.alloc (.cells #[.int .i64 kk, .int .i64 kn, .string ks, .slice ao5 kl.length cap5] 47)).drew.alloc (.cells #[.int .i64 r.1, .int .i64 kk, .int .i64 kn, .string ks, .slice ao5 kl.length cap5] 50) := ⟨_, rfl⟩
        have h56 : Below w5.heap.size w5 W6 := by rw [hW6]; exact (((Below.refl _ _).alloc (Nat.le_refl _) _).drew).alloc (by simp) _
        have h66 : Below (w5.heap.size + 1) (w5.alloc (.cells #[.int .i64 kk, .int .i64 kn, .string ks, .slice ao5 kl.length cap5] 47)) W6 := by rw [hW6]; exact ((Below.refl _ _).drew).alloc (by simp) _
        have H66 := Lib.hid h66
        have HR6 : Hid (OwRow 50 W6 wc.heap.size (.slice a3 i c3q) ((objs.take i).map tmO)) := HW6.out.below h56
        have HVV : Hid (ValIs W6 (fun b => wc.heap.size ≤ b ∧ b < W6.heap.size ∧ (Value.slice a3 i c3q).ownBlock ≠ some b) (.node kk kn ks kl) (vval (.node kk kn ks kl) ao5 cap5)) :=
          (HV5.out.below h56 (fun b hb => hb.2)).mono fun b hb => ⟨Nat.le_trans HB.out.size hb.1, Nat.lt_of_lt_of_le hb.2 h56.size, fun e => by have := (HROW.out.lt e).2; omega⟩
        have hnw : (∀ j u, ([.int .i64 r.1, .int .i64 kk, .int .i64 kn, .string ks, .slice ao5 kl.length cap5] : List Value)[j]? = some u → W6.cell? (Addr.add ⟨w5.heap.size + 1, 0, none⟩ j) = some u) := by
          have := cell_five_new (w5.alloc (.cells #[.int .i64 kk, .int .i64 kn, .string ks, .slice ao5 kl.length cap5] 47)).drew (.int .i64 r.1) (.int .i64 kk) (.int .i64 kn) (.string ks) (.slice ao5 kl.length cap5) 50
          rw [← hW6] at this
          simpa using this
        have HNW := Lib.hid hnw
        clear hnw
        have hw5 : wc.heap.size ≤ w5.heap.size := Nat.le_trans HB.out.size HB5.out.size
        have HN6 : Hid (wc.heap.size ≤ W6.heap.size) := Nat.le_trans hw5 h56.size
        have HB6 : Hid (Below wc.heap.size w5 W6) := h56.mono hw5
        have HS9 : Hid (∀ w9, Chg (Value.slice a3 i c3q).ownBlock.toList W6 w9 → w9.cell? ⟨b, off + i * 5, none⟩ = some (.int .i64 r.1) ∧ w9.cell? ⟨w5.heap.size, 0, none⟩ = some (.int .i64 kk) ∧ w9.cell? ⟨w5.heap.size, 1, none⟩ = some (.int .i64 kn) ∧ w9.cell? ⟨w5.heap.size, 2, none⟩ = some (.string ks) ∧ w9.cell? ⟨w5.heap.size, 3, none⟩ = some (.slice ao5 kl.length cap5)) := fun w9 hc => by
          obtain ⟨s0, s1, s2, s3, s4⟩ := HS.out W6 h66
          have hbl := HBO.out
          have hsz := h56.size
          have hsz2 := h66.size
          have hs5 := HB5.out.size
          have hs6 : w5.heap.size + 1 ≤ W6.heap.size := by simpa using hsz2
          have n1 : b ∉ (Value.slice a3 i c3q).ownBlock.toList := fun h => by have := (HROW.out.lt (by simpa using h)).1; omega
          have n2 : w5.heap.size ∉ (Value.slice a3 i c3q).ownBlock.toList := fun h => by have := (HROW.out.lt (by simpa using h)).2; omega
          exact ⟨(hc.cell (p := ⟨b, off + i * 5, none⟩) (by show b < _; omega) n1).trans s0, (hc.cell (p := ⟨w5.heap.size, 0, none⟩) (by show w5.heap.size < _; omega) n2).trans s1, (hc.cell (p := ⟨w5.heap.size, 1, none⟩) (by show w5.heap.size < _; omega) n2).trans s2, (hc.cell (p := ⟨w5.heap.size, 2, none⟩) (by show w5.heap.size < _; omega) n2).trans s3, (hc.cell (p := ⟨w5.heap.size, 3, none⟩) (by show w5.heap.size < _; omega) n2).trans s4⟩
        have HT6 : Hid (((objs.take i).map tmO).length ≤ 1000000) := by show _ ≤ _; rw [HTL.out]; have := HB30.out; omega
        clear h56 h66 c1 c2 c3 c4
        subst hW6
        go_region_held3 (fun w' => w'.cell? ⟨b, off + i * 5, none⟩ = some (.int .i64 r.1) ∧ w'.cell? ⟨w5.heap.size, 0, none⟩ = some (.int .i64 kk) ∧ w'.cell? ⟨w5.heap.size, 1, none⟩ = some (.int .i64 kn) ∧ w'.cell? ⟨w5.heap.size, 2, none⟩ = some (.string ks) ∧ w'.cell? ⟨w5.heap.size, 3, none⟩ = some (.slice ao5 kl.length cap5))
          (first | exact HS.out _ (Below.refl _ _) | exact HS.out _ (Below.refl _ _).drew | exact HS.out _ ((Below.refl _ _).drew.alloc (by simp) _) | exact HB9.out)
          (first
            | (refine step_obj (w := (w5.alloc (.cells #[.int .i64 kk, .int .i64 kn, .string ks, .slice ao5 kl.length cap5] 47)).drew.alloc (.cells #[.int .i64 r.1, .int .i64 kk, .int .i64 kn, .string ks, .slice ao5 kl.length cap5] 50)) (N := wc.heap.size) (objs := (objs.take i).map tmO) (id := r.1) (t := .node kk kn ks kl) (ao0 := ao5) (cap0 := cap5) (v := .slice a3 i c3q) (ad := ⟨w5.heap.size + 1, 0, none⟩) (c := 1) Tryz.underlying23 infoO8 rfl _ _ rfl rfl HR6.out rfl HWF.out HVV.out HNW.out HN6.out HT6.out ?_; rw [HTL.out]; intro a9 c9 w9 hr9 hb9 hc9; have HR9 := Lib.hid hr9; have HB9 := Lib.hid (HS9.out _ hc9); have HB10 := Lib.hid hb9; clear hr9 hb9 hc9))
        go_wp2
        go_roundg (gk - 1)
        case measure => have := HI.out; have := HLT.out; omega
        case rel => exact ⟨i + 1, by go_num, by have := HI.out; have := HLT.out; omega, by rw [List.take_add_one, HR.out, List.map_append, Option.toList_some, List.map_cons, List.map_nil, HQ.out]; exact HR9.out, HB.out.trans (HBW.out.trans (HB6.out.trans HB10.out))⟩
      · have htk : objs.take i = objs.take 30 := by
          by_cases h30 : objs.length ≤ 30
          · rw [List.take_of_length_le (by omega), List.take_of_length_le h30]
          · have : i = 30 := by omega
            rw [this]
        have hfin : OwRow 50 wr wc.heap.size (.slice a3 ((objs.take i).map tmO).length c3q) (fewO objs) := by
          have h := hrow
          have e : (objs.take i).map tmO = fewO objs := by rw [htk]; rfl
          rw [e] at h ⊢
          exact h
        have HFIN := Lib.hid hfin
        clear hrow hb hi hfin HROW
        generalize ((objs.take i).map tmO).length = nn at HFIN ⊢
        have HEND : FewEnd w l objs (.returned (.tuple #[.slice a6 (fewR l).length c6, .slice a3 nn c3q])) wr := ⟨_, _, rfl, HR1.out.below HB.out, ⟨HFIN.out.choose, HFIN.out.choose_spec.1, fun k hk => Nat.le_trans HB1.out.size (HFIN.out.choose_spec.2.1 k hk), HFIN.out.choose_spec.2.2.1, fun j x o hx ho => ⟨(HFIN.out.choose_spec.2.2.2 j x o hx ho).1, (HFIN.out.choose_spec.2.2.2 j x o hx ho).2.1.mono fun b hb => ⟨Nat.le_trans HB1.out.size hb.1, hb.2⟩, (HFIN.out.choose_spec.2.2.2 j x o hx ho).2.2⟩⟩, HB1.out.trans (HB.out.mono HB1.out.size)⟩
        by_cases hil : i < objs.length
        · have i1 : (i : Int) < (objs.length : Int) := by omega
          have i2 : ¬ (i : Int) < 30 := by omega
          clear hlt htk hil hm2
          go_wp2
          go_ret2
          exact HEND
        · have i1 : ¬ (i : Int) < (objs.length : Int) := by omega
          clear hlt htk hil hm2
          go_wp2
          go_ret2
          exact HEND
end Go.Proofs.YtenikoecnfbfoaaGreatDoor
/- Layer 8: the document's Dir. -/
namespace Go.Proofs.YtenikoecnfbfoaaGreatDoor
open Go.RowKit
set_option linter.unusedVariables false
set_option linter.unusedSimpArgs false
open Gr (RT strV refV tupV noneV dirV zeroV dirT sortO)

def RdP (W : World) (B5 b : Nat) : Prop := B5 < b ∧ ∃ cs T fr, W.heap[b]? = some (.cells cs T fr)
/-- What the document's loop has built, and what it keeps. -/
def RdI (w0 : World) (B5 : Nat) (l : List RT) (W : World) : Prop :=
  ∃ (num : Int) (ao : Option Addr) (n cap : Nat), W.heap[B5]? = some (.cells #[.int .i64 3, .int .i64 num, .string ⟨#[]⟩, .slice ao n cap] 47 (0, 0)) ∧
    ValIs W (RdP W B5) (dirV l) (.agg #[.int .i64 3, .int .i64 num, .string ⟨#[]⟩, .slice ao n cap]) ∧ Below B5 w0 W
theorem rdp_keep {W W' : World} {B5 : Nat} {t : VT} {v : Value} (h3 : ValIs W (RdP W B5) t v) (hk : ∀ b cs T fr, B5 < b → W.heap[b]? = some (.cells cs T fr) → W'.heap[b]? = some (.cells cs T fr)) : ValIs W' (RdP W' B5) t v := by
  refine h3.keep (fun b ⟨hb1, cs, T, fr, hb2⟩ => ⟨hb1, cs, T, fr, hk b cs T fr hb1 hb2⟩) (fun p hp => ?_)
  obtain ⟨hb1, cs, T, fr, hb2⟩ := hp
  unfold World.cell?
  rw [hk p.block cs T fr hb1 hb2, hb2]
/-- One root more. -/
theorem rd_next {w0 W W' : World} {B5 p c : Nat} {l : List RT} {r : RT} {num : Int} {ao : Option Addr} {n cap : Nat} (h : RdI w0 B5 l W) (hB : W.heap[B5]? = some (.cells #[.int .i64 3, .int .i64 num, .string ⟨#[]⟩, .slice ao n cap] 47 (0, 0)))
    (hc : Chg [B5] W W') (h5 : W'.heap[B5]? = some (.cells #[.int .i64 3, .int .i64 1, .string ⟨#[]⟩, .slice (some ⟨c, 0, none⟩) 2 2] 47 (0, 0)))
    (hp : B5 < p) (hcB : B5 < c) (hg : Gd r)
    (h12 : W'.heap[p]? = some (.cells (tup12 r) 47 (0, 0)))
    (h8 : W'.heap[c]? = some (.cells #[.int .i64 4, .int .i64 0, .string ⟨#[]⟩, .slice (some ⟨p, 0, none⟩) 3 3, .int .i64 3, .int .i64 num, .string ⟨#[]⟩, .slice ao n cap] 47 (0, 0))) : RdI w0 B5 (r :: l) W' := by
  obtain ⟨num', ao', n', cap', h1, h3, h4⟩ := h
  rw [hB] at h1
  cases h1
  refine ⟨1, _, 2, 2, h5, ?_, h4.trans (hc.below (Nat.le_of_lt (lt_of_block hB)) (by simp))⟩
  obtain ⟨g1, g2, g3⟩ := hg
  exact dir_is h12 h8 ⟨hp, _, _, _, h12⟩ ⟨hcB, _, _, _, h8⟩ g1 g2 g3 (rdp_keep h3 (fun b cs T fr hb hbk => (hc.block b (lt_of_block hbk) (by simp; omega)).trans hbk))
theorem RdI.chg {w0 W W' : World} {B5 : Nat} {l : List RT} (h : RdI w0 B5 l W) (hc : Chg [] W W') : RdI w0 B5 l W' := by
  obtain ⟨num, ao, n, cap, h1, h3, h4⟩ := h
  have l1 := lt_of_block h1
  exact ⟨num, ao, n, cap, (hc.block _ l1 (by simp)).trans h1, rdp_keep h3 (fun b cs T fr _ hb => (hc.block b (lt_of_block hb) (by simp)).trans hb), h4.trans (hc.below (Nat.le_of_lt l1) (by simp))⟩
/-- Behind the region that makes a root's triple: its parts' block and its box, in either order. -/
def Trip (W W' : World) (r : RT) (s8 : Value) : Prop :=
  ∃ p q : Nat, s8 = .pointer (some ⟨q, 0, none⟩) ∧ W.heap.size ≤ p ∧ W.heap.size ≤ q ∧ Chg [] W W' ∧ W'.heap[p]? = some (.cells (tup12 r) 47 (0, 0)) ∧ W'.heap[q]? = some (.cells #[.int .i64 4, .int .i64 0, .string ⟨#[]⟩, .slice (some ⟨p, 0, none⟩) 3 3] 47 (0, 0))
theorem trip_a (W : World) (r : RT) : Trip W (((W.alloc (.cells #[.int .i64 2, .int .i64 0, .string (bytes r.name), .slice none 0 0, .int .i64 2, .int .i64 0, .string (bytes r.typ), .slice none 0 0, .int .i64 5, .int .i64 r.id, .string ⟨#[]⟩, .slice none 0 0] 47)).alloc (.cells #[.int .i64 4, .int .i64 0, .string ⟨#[]⟩, .slice (some ⟨W.heap.size, 0, none⟩) 3 3] 47)).drew) r (.pointer (some ⟨W.heap.size + 1, 0, none⟩)) := by
  refine ⟨W.heap.size, W.heap.size + 1, rfl, Nat.le_refl _, by omega, (((Chg.refl [] W).alloc _).alloc _).drewN 1, ?_, ?_⟩
  · exact (Below.heap_alloc _ _ _ (by simp)).trans (World.alloc_heap_new _ _)
  · have h := World.alloc_heap_new (W.alloc (.cells #[.int .i64 2, .int .i64 0, .string (bytes r.name), .slice none 0 0, .int .i64 2, .int .i64 0, .string (bytes r.typ), .slice none 0 0, .int .i64 5, .int .i64 r.id, .string ⟨#[]⟩, .slice none 0 0] 47)) (.cells #[.int .i64 4, .int .i64 0, .string ⟨#[]⟩, .slice (some ⟨W.heap.size, 0, none⟩) 3 3] 47)
    rw [World.size_alloc] at h
    exact h
theorem trip_b (W : World) (r : RT) : Trip W (((W.alloc (.cells #[.int .i64 4, .int .i64 0, .string ⟨#[]⟩, .slice (some ⟨W.heap.size + 1, 0, none⟩) 3 3] 47)).alloc (.cells #[.int .i64 2, .int .i64 0, .string (bytes r.name), .slice none 0 0, .int .i64 2, .int .i64 0, .string (bytes r.typ), .slice none 0 0, .int .i64 5, .int .i64 r.id, .string ⟨#[]⟩, .slice none 0 0] 47)).drew) r (.pointer (some ⟨W.heap.size, 0, none⟩)) := by
  refine ⟨W.heap.size + 1, W.heap.size, rfl, by omega, Nat.le_refl _, (((Chg.refl [] W).alloc _).alloc _).drewN 1, ?_, ?_⟩
  · have h := World.alloc_heap_new (W.alloc (.cells #[.int .i64 4, .int .i64 0, .string ⟨#[]⟩, .slice (some ⟨W.heap.size + 1, 0, none⟩) 3 3] 47)) (.cells #[.int .i64 2, .int .i64 0, .string (bytes r.name), .slice none 0 0, .int .i64 2, .int .i64 0, .string (bytes r.typ), .slice none 0 0, .int .i64 5, .int .i64 r.id, .string ⟨#[]⟩, .slice none 0 0] 47)
    rw [World.size_alloc] at h
    exact h
  · exact (Below.heap_alloc _ _ _ (by simp)).trans (World.alloc_heap_new _ _)
theorem four_last1 {W : World} {B5 : Nat} {a b c d y0 y1 y2 y3 : Value} {t t' : TypeId} {cs : Array Value} (h : W.heap[B5]? = some (.cells #[a, b, c, d] t (0, 0))) :
    (((((W.setCell ⟨B5, 0, none⟩ y0).setCell ⟨B5, 1, none⟩ y1).setCell ⟨B5, 2, none⟩ y2).setCell ⟨B5, 3, none⟩ y3).alloc (.cells cs t')).heap[B5]? = some (.cells #[y0, y1, y2, y3] t (0, 0)) ∧
    Chg [B5] W (((((W.setCell ⟨B5, 0, none⟩ y0).setCell ⟨B5, 1, none⟩ y1).setCell ⟨B5, 2, none⟩ y2).setCell ⟨B5, 3, none⟩ y3).alloc (.cells cs t')) ∧
    (((((W.setCell ⟨B5, 0, none⟩ y0).setCell ⟨B5, 1, none⟩ y1).setCell ⟨B5, 2, none⟩ y2).setCell ⟨B5, 3, none⟩ y3).alloc (.cells cs t')).heap[W.heap.size]? = some (.cells cs t' (0, 0)) := by
  have h4 := four_stored (y0 := y0) (y1 := y1) (y2 := y2) (y3 := y3) h
  refine ⟨(Below.heap_alloc _ _ _ (lt_of_block h4)).trans h4, (four_stores (Chg.refl [B5] _) (.inl (by simp)) _ _ _ _).alloc _, ?_⟩
  have hn := World.alloc_heap_new ((((W.setCell ⟨B5, 0, none⟩ y0).setCell ⟨B5, 1, none⟩ y1).setCell ⟨B5, 2, none⟩ y2).setCell ⟨B5, 3, none⟩ y3) (.cells cs t')
  simp only [World.size_setCell] at hn
  exact hn
def RdLoop (w0 : World) (B5 : Nat) (s : List RT) (gk : Nat) (s7 : Value) (wr : World) : Prop :=
  ∃ z : Int, s7 = .int .i64 z ∧ z = (gk : Int) - 1 ∧ gk ≤ s.length ∧ RdI w0 B5 (s.drop gk) wr
set_option maxRecDepth 100000 in
theorem refDir_big (w : World) (v : Value) (l : List RT) (h : RtAt w v l) (hl : 100 < l.length) (hl2 : l.length ≤ 1000000) : Calls Tryz.prog 20 #[v] w (DirEnd w (dirT l)) := by
  obtain ⟨ao, cap, rfl, _⟩ := h
  have h1 : (100 : Int) < (l.length : Int) := by omega
  have hdt : dirT l = (zeroV, 4) := by unfold dirT; rw [if_pos hl]
  rw [hdt]
  clear hdt hl
  have hbl := World.alloc_heap_new w (.cells #[.int .i64 0, .int .i64 0, .string ⟨#[]⟩, .slice none 0 0] 47)
  have HBL := Lib.hid hbl
  clear hbl
  go_enter Tryz.func20, Tryz.ntmps20
  go_wp2
  obtain ⟨y0, y1, y2, y3, _⟩ := hdr4_cells HBL.out
  refine bodyPost_ret (v := .tuple #[.agg #[.int .i64 0, .int .i64 0, .string ⟨#[]⟩, .slice none 0 0], .int .i64 4]) (by simp [results, Tryz.results20, go_sem, y0, y1, y2, y3]) rfl ?_
  exact ⟨_, rfl, leaf_is _ _ 0 0 _ (by decide) (by decide) (sz_max _ (by decide)), (Below.refl _ _).alloc (Nat.le_refl _) _⟩
set_option maxRecDepth 100000 in
theorem refDir_none (w : World) (v : Value) (l : List RT) (h : RtAt w v l) (hl : l.length ≤ 100) (hs : sortO l [] = none) (hsz : ∀ r ∈ l, Gd r) : Calls Tryz.prog 20 #[v] w (DirEnd w (dirT l)) := by
  have HS := Lib.hid (fun W (hW : Below w.heap.size w W) => refSorted_any W v l (h.below hW) (by omega) (fun r hr => ⟨(hsz r hr).1, (hsz r hr).2.1⟩))
  obtain ⟨ao, cap, rfl, _⟩ := h
  have h1 : ¬ (100 : Int) < (l.length : Int) := by omega
  have hdt : dirT l = (zeroV, 2) := by unfold dirT; rw [if_neg (by omega), hs]
  rw [hdt]
  clear hdt
  go_enter Tryz.func20, Tryz.ntmps20
  go_wp2_with (go_at_call 31; refine (HS.out _ ((Below.refl _ _).alloc (Nat.le_refl _) _)).mono ?_; rintro e w2 ⟨v2, rfl, _, hn, hb⟩; have hn2 := hn hs; subst hn2; have HB2 := Lib.hid hb; have zR := (hb.block w.heap.size (by simp)).trans (World.alloc_heap_new w _); obtain ⟨r0, r1, r2, r3, r4⟩ := hdr4_cells zR; have ZR := Lib.hid zR; clear hb zR hn; simp only [hs, Option.isSome_none])
  obtain ⟨z1, z2⟩ := four_ret (y0 := .int .i64 0) (y1 := .int .i64 0) (y2 := .string ⟨#[]⟩) (y3 := .slice none 0 0) ZR.out
  generalize ((((World.setCell _ _ _).setCell _ _).setCell _ _).setCell _ _) = wz at z1 z2 ⊢
  clear r0 r1 r2 r3 r4
  obtain ⟨y0, y1, y2, y3, _⟩ := hdr4_cells z1
  refine bodyPost_ret (v := .tuple #[.agg #[.int .i64 0, .int .i64 0, .string ⟨#[]⟩, .slice none 0 0], .int .i64 2]) (by simp [results, Tryz.results20, go_sem, y0, y1, y2, y3]) rfl ?_
  have h1 : Below w.heap.size w w2 := ((Below.refl _ _).alloc (Nat.le_refl _) _).trans (HB2.out.mono (by simp))
  exact ⟨_, rfl, leaf_is _ _ 0 0 _ (by decide) (by decide) (sz_max _ (by decide)), h1.trans (z2.below h1.size (by simp))⟩
set_option maxRecDepth 100000 in
set_option maxHeartbeats 8000000 in
theorem refDir_some (w : World) (v : Value) (l s : List RT) (h : RtAt w v l) (hl : l.length ≤ 100) (hs : sortO l [] = some s) (hsz : ∀ r ∈ l, Gd r) : Calls Tryz.prog 20 #[v] w (DirEnd w (dirT l)) := by
  have HS := Lib.hid (fun W (hW : Below w.heap.size w W) => refSorted_any W v l (h.below hW) (by omega) (fun r hr => ⟨(hsz r hr).1, (hsz r hr).2.1⟩))
  have hp := (Gr.sortO_some .nil hs).2.1
  rw [List.append_nil] at hp
  have HGD : Hid (∀ r ∈ s, Gd r) := fun r hr => hsz r (hp.mem_iff.1 hr)
  have hsl : s.length ≤ 100 := by have := hp.length_eq; omega
  have hl1 : (l.length : Int) ≤ 100 := by omega
  have hsl1 : (s.length : Int) ≤ 100 := by omega
  obtain ⟨ao, cap, rfl, _⟩ := id h
  clear h hsz hp
  go_enter Tryz.func20, Tryz.ntmps20
  go_upto_block 0 with (go_at_call 31; refine (HS.out _ ((Below.refl _ _).alloc (Nat.le_refl _) _)).mono ?_; rintro e w2 ⟨v2, rfl, hr, hn, hb⟩; have hr2 := hr s hs; obtain ⟨a2, c2, rfl, _⟩ := hr2.at_; have HR2 := Lib.hid hr2; have HB2 := Lib.hid hb; clear hr hn hb hr2; simp only [hs, Option.isSome_some])
  have HSS := Lib.hid hs
  clear hs HS
  have h0 : RdI w2 w2.heap.size [] (w2.alloc (.cells #[.int .i64 3, .int .i64 0, .string ⟨#[]⟩, .slice none 0 0] 47)) :=
    ⟨0, none, 0, 0, World.alloc_heap_new _ _, leaf_is _ _ 3 0 _ (by decide) (by decide) (sz_max _ (by decide)), (Below.refl _ _).alloc (Nat.le_refl _) _⟩
  generalize w2.alloc (.cells #[.int .i64 3, .int .i64 0, .string ⟨#[]⟩, .slice none 0 0] 47) = W0 at h0 ⊢
  obtain ⟨aq, cq, hq, hcc⟩ := HR2.out.at_.cells
  cases hq
  have HCC := Lib.hid hcc
  have H0 := Lib.hid h0
  clear hcc h0
  generalize hB5 : w2.heap.size = B5 at *
  have hw0 : IntKind.i64.wrap ((s.length : Int) - 1) = (s.length : Int) - 1 := by rw [IntKind.wrap_i64]; omega
  go_wp2
  clear hw0
  go_loopg [7] s.length (fun gk s7 wr => RdLoop w2 B5 s gk s7 wr)
  case atStart => exact ⟨_, rfl, rfl, Nat.le_refl _, by rw [List.drop_length]; exact H0.out⟩
  case round =>
    obtain ⟨z, rfl, hz, hgk, hI⟩ := hrel
    have HI := Lib.hid hI
    obtain ⟨num, ao5, n5, cap5, hb5, _, hbw⟩ := id hI
    have HB := Lib.hid hbw
    have HB5 := Lib.hid hb5
    obtain ⟨q0, q1, q2, q3, q4⟩ := hdr4_cells hb5
    clear hI
    cases gk with
    | zero =>
      have hz1 : z = -1 := by omega
      subst hz1
      clear hz hb5 hbw
      have hwR : w.heap.size < w2.heap.size := by have := HB2.out.size; simp at this; omega
      have hRB : w.heap.size < B5 := by omega
      have hzR := (HB.out.block w.heap.size hRB).trans ((HB2.out.block w.heap.size (by simp)).trans (World.alloc_heap_new w _))
      have hval : ValIs wr (RdP wr B5) (dirV (s.drop 0)) (.agg #[.int .i64 3, .int .i64 num, .string ⟨#[]⟩, .slice ao5 n5 cap5]) := by obtain ⟨num', ao', n', cap', g1, g2, _⟩ := HI.out; rw [HB5.out] at g1; cases g1; exact g2
      rw [List.drop_zero] at hval
      have HCK := Lib.hid (refEncode_any (dirV s) _ wr (RdP wr B5) hval (fun b hb => by obtain ⟨_, cs, T, fr, h⟩ := hb; exact lt_of_block h))
      have HV := Lib.hid hval
      have HZR := Lib.hid hzR
      have HRB := Lib.hid hRB
      clear hzR hval hwR
      have hbW : Below w.heap.size w wr := (((Below.refl _ _).alloc (Nat.le_refl _) _).trans (HB2.out.mono (by simp))).trans (HB.out.mono (Nat.le_of_lt HRB.out))
      have HBW := Lib.hid hbW
      clear hbW
      by_cases hck : encErr (dirV s) = 0
      · have hdt : dirT l = (dirV s, 0) := by unfold dirT; rw [if_neg (by omega), HSS.out]; simp only; rw [if_pos hck]
        have HDT := Lib.hid hdt
        rw [show RefEncEnd wr (dirV s) = fun e w' => e = .returned (.tuple #[.string (bytes (encBytes (dirV s))), .int .i64 0]) ∧ Below wr.heap.size wr w' by funext e w'; unfold RefEncEnd; rw [hck]] at HCK
        clear hck hdt
        go_wp2_with (go_at_call 30; refine HCK.out.mono ?_; rintro e w5 ⟨rfl, hb5⟩; have HB5w := Lib.hid hb5; have z5 := (hb5.block B5 (lt_of_block HB5.out)).trans HB5.out; have zR := (hb5.block w.heap.size (lt_of_block HZR.out)).trans HZR.out; clear q0 q1 q2 q3 q4; obtain ⟨q0, q1, q2, q3, q4⟩ := hdr4_cells z5; obtain ⟨r0, r1, r2, r3, r4⟩ := hdr4_cells zR; have ZR := Lib.hid zR; clear hb5 z5 zR)
        obtain ⟨z1, z2⟩ := four_ret (y0 := .int .i64 3) (y1 := .int .i64 num) (y2 := .string ⟨#[]⟩) (y3 := .slice ao5 n5 cap5) ZR.out
        generalize ((((World.setCell _ _ _).setCell _ _).setCell _ _).setCell _ _) = wz at z1 z2 ⊢
        clear q0 q1 q2 q3 q4 r0 r1 r2 r3 r4
        obtain ⟨y0, y1, y2, y3, _⟩ := hdr4_cells z1
        refine bodyPost_ret (v := .tuple #[.agg #[.int .i64 3, .int .i64 num, .string ⟨#[]⟩, .slice ao5 n5 cap5], .int .i64 0]) (by simp [results, Tryz.results20, go_sem, y0, y1, y2, y3]) rfl ?_
        rw [HDT.out]
        have hs5 := HB5w.out.size
        have hbe : Below w.heap.size w wz := (HBW.out.trans (HB5w.out.mono HBW.out.size)).trans (z2.below (Nat.le_trans HBW.out.size hs5) (by simp))
        have hRB2 := HRB.out
        refine ⟨_, rfl, HV.out.keep (fun b hb => ?_) (fun p hp => ?_), hbe⟩
        · obtain ⟨h1, cs, T, fr, h2⟩ := hb
          have := lt_of_block h2
          exact ⟨by omega, Nat.lt_of_lt_of_le this (Nat.le_trans hs5 z2.size)⟩
        · obtain ⟨h1, cs, T, fr, h2⟩ := hp
          have hl2 := lt_of_block h2
          unfold World.cell?
          rw [z2.block _ (Nat.lt_of_lt_of_le hl2 hs5) (by simp; omega), HB5w.out.block _ hl2]
      · obtain ⟨er, her⟩ : ∃ er, encErr (dirV s) = er := ⟨_, rfl⟩
        have hdt : dirT l = (zeroV, er) := by unfold dirT; rw [if_neg (by omega), HSS.out]; simp only; rw [if_neg hck, her]
        have HDT := Lib.hid hdt
        rw [her] at hck
        have k1 : (er == 0) = false := by simpa using hck
        have k2 : (er != 0) = true := by simpa using hck
        rw [show RefEncEnd wr (dirV s) = fun e w' => e = .returned (.tuple #[.string (bytes (encBytes (dirV s))), .int .i64 er]) ∧ Below wr.heap.size wr w' by funext e w'; unfold RefEncEnd; rw [her]] at HCK
        clear hck hdt her
        go_wp2_with (go_at_call 30; refine HCK.out.mono ?_; rintro e w5 ⟨rfl, hb5⟩; have HB5w := Lib.hid hb5; have z5 := (hb5.block B5 (lt_of_block HB5.out)).trans HB5.out; have zR := (hb5.block w.heap.size (lt_of_block HZR.out)).trans HZR.out; clear q0 q1 q2 q3 q4; obtain ⟨q0, q1, q2, q3, q4⟩ := hdr4_cells z5; obtain ⟨r0, r1, r2, r3, r4⟩ := hdr4_cells zR; have ZR := Lib.hid zR; clear hb5 z5 zR)
        obtain ⟨z1, z2⟩ := four_ret (y0 := .int .i64 0) (y1 := .int .i64 0) (y2 := .string ⟨#[]⟩) (y3 := .slice none 0 0) ZR.out
        generalize ((((World.setCell _ _ _).setCell _ _).setCell _ _).setCell _ _) = wz at z1 z2 ⊢
        clear q0 q1 q2 q3 q4 r0 r1 r2 r3 r4
        obtain ⟨y0, y1, y2, y3, _⟩ := hdr4_cells z1
        refine bodyPost_ret (v := .tuple #[.agg #[.int .i64 0, .int .i64 0, .string ⟨#[]⟩, .slice none 0 0], .int .i64 er]) (by simp [results, Tryz.results20, go_sem, y0, y1, y2, y3]) rfl ?_
        rw [HDT.out]
        have hs5 := HB5w.out.size
        have hbe : Below w.heap.size w wz := (HBW.out.trans (HB5w.out.mono HBW.out.size)).trans (z2.below (Nat.le_trans HBW.out.size hs5) (by simp))
        exact ⟨_, rfl, leaf_is _ _ 0 0 _ (by decide) (by decide) (sz_max _ (by decide)), hbe⟩
    | succ k =>
      have hz1 : z = (k : Int) := by omega
      subst hz1
      obtain ⟨r, hr⟩ : ∃ r, s[k]? = some r := ⟨_, List.getElem?_eq_getElem (by omega)⟩
      have hds : s.drop k = r :: s.drop (k + 1) := by rw [List.drop_eq_getElem_cons (by omega), (List.getElem?_eq_some_iff.1 hr).2]
      have HDS := Lib.hid hds
      have HG := Lib.hid (HGD.out r (List.mem_of_getElem? hr))
      obtain ⟨b, off, rfl, hbl, c0, c1, c2'⟩ := HCC.out k r hr
      have hbl5 : b < B5 := by omega
      have hSS : ∀ W, Below B5 wr W → W.cell? ⟨b, off + k * 3, none⟩ = some (.string (bytes r.name)) ∧ W.cell? ⟨b, off + k * 3 + 1, none⟩ = some (.string (bytes r.typ)) ∧ W.cell? ⟨b, off + k * 3 + 2, none⟩ = some (.int .i64 r.id) := fun W hW =>
        ⟨((hbw.trans hW).cell (p := ⟨b, off + k * 3, none⟩) hbl5).trans c0, ((hbw.trans hW).cell (p := ⟨b, off + k * 3 + 1, none⟩) hbl5).trans c1, ((hbw.trans hW).cell (p := ⟨b, off + k * 3 + 2, none⟩) hbl5).trans c2'⟩
      have HSS := Lib.hid hSS
      have hl5 := lt_of_block hb5
      have HL5 := Lib.hid hl5
      have i0 : (0 : Int) ≤ (k : Int) := by omega
      have i1 : (k : Int) < (s.length : Int) := by omega
      clear hz hb5 hbw hds hSS c0 c1 c2' hbl hr
      go_wp2
      go_region_held3 (fun w' => w'.cell? ⟨b, off + k * 3, none⟩ = some (.string (bytes r.name)) ∧ w'.cell? ⟨b, off + k * 3 + 1, none⟩ = some (.string (bytes r.typ)) ∧ w'.cell? ⟨b, off + k * 3 + 2, none⟩ = some (.int .i64 r.id))
        (first | exact HSS.out _ (Below.refl _ _) | exact HSS.out _ (Below.refl _ _).drew | exact HSS.out _ ((Below.refl _ _).drew.alloc (Nat.le_of_lt HL5.out) _) | exact HSS.out _ (((Below.refl _ _).drew.alloc (Nat.le_of_lt HL5.out) _).alloc (by have := HL5.out; simp; omega) _) | exact HSS.out _ ((Chg.below (by repeat (first | exact (Chg.refl _ _).drewN 1 | refine Chg.setCell ?_ (.inr (by simp)) _ | refine Chg.alloc ?_ _)) (Nat.le_of_lt HL5.out) (by simp)))) (fail)
      · have hT := trip_a wr r
        generalize ((wr.alloc _).alloc _).drew = W1 at hT ⊢
        obtain ⟨p, q, e8, hp, hq, hc1, h12, h4⟩ := hT
        cases e8
        obtain ⟨t0, t1, t2, t3, t4⟩ := hdr4_cells h4
        have hb1 := (hc1.block B5 HL5.out (by simp)).trans HB5.out
        obtain ⟨q0, q1, q2, q3, q4⟩ := hdr4_cells hb1
        have pz := fun o => later_box hb1 o
        have HB1 := Lib.hid hb1
        have HC1 := Lib.hid hc1
        have H12 := Lib.hid h12
        have HI1 := Lib.hid (RdI.chg HI.out hc1)
        have hl1' := lt_of_block hb1
        clear hb1 hc1 h12 h4
        go_wp2
        obtain ⟨f1, f2, e8⟩ := four_last1 (t' := 47) (cs := #[.int .i64 4, .int .i64 0, .string ⟨#[]⟩, .slice (some ⟨p, 0, none⟩) 3 3, .int .i64 3, .int .i64 num, .string ⟨#[]⟩, .slice ao5 n5 cap5]) (y0 := .int .i64 3) (y1 := .int .i64 1) (y2 := .string ⟨#[]⟩) (y3 := .slice (some ⟨W1.heap.size, 0, none⟩) 2 2) HB1.out
        have e12 := (f2.block p (lt_of_block H12.out) (by have := HL5.out; simp; omega)).trans H12.out
        have hn := rd_next HI1.out HB1.out f2 f1 (by have := HL5.out; omega) (by have := hl1'; omega) HG.out e12 e8
        rw [← HDS.out] at hn
        have HN := Lib.hid hn
        clear f1 f2 e12 e8 hn
        generalize (((((W1.setCell _ _).setCell _ _).setCell _ _).setCell _ _).alloc _) = W2 at HN ⊢
        go_roundg k
        case measure => omega
        case rel => exact ⟨_, rfl, by go_num, by omega, HN.out⟩
      · have hT := trip_b wr r
        generalize ((wr.alloc _).alloc _).drew = W1 at hT ⊢
        obtain ⟨p, q, e8, hp, hq, hc1, h12, h4⟩ := hT
        cases e8
        obtain ⟨t0, t1, t2, t3, t4⟩ := hdr4_cells h4
        have hb1 := (hc1.block B5 HL5.out (by simp)).trans HB5.out
        obtain ⟨q0, q1, q2, q3, q4⟩ := hdr4_cells hb1
        have pz := fun o => later_box hb1 o
        have HB1 := Lib.hid hb1
        have HC1 := Lib.hid hc1
        have H12 := Lib.hid h12
        have HI1 := Lib.hid (RdI.chg HI.out hc1)
        have hl1' := lt_of_block hb1
        clear hb1 hc1 h12 h4
        go_wp2
        obtain ⟨f1, f2, e8⟩ := four_last1 (t' := 47) (cs := #[.int .i64 4, .int .i64 0, .string ⟨#[]⟩, .slice (some ⟨p, 0, none⟩) 3 3, .int .i64 3, .int .i64 num, .string ⟨#[]⟩, .slice ao5 n5 cap5]) (y0 := .int .i64 3) (y1 := .int .i64 1) (y2 := .string ⟨#[]⟩) (y3 := .slice (some ⟨W1.heap.size, 0, none⟩) 2 2) HB1.out
        have e12 := (f2.block p (lt_of_block H12.out) (by have := HL5.out; simp; omega)).trans H12.out
        have hn := rd_next HI1.out HB1.out f2 f1 (by have := HL5.out; omega) (by have := hl1'; omega) HG.out e12 e8
        rw [← HDS.out] at hn
        have HN := Lib.hid hn
        clear f1 f2 e12 e8 hn
        generalize (((((W1.setCell _ _).setCell _ _).setCell _ _).setCell _ _).alloc _) = W2 at HN ⊢
        go_roundg k
        case measure => omega
        case rel => exact ⟨_, rfl, by go_num, by omega, HN.out⟩
/-- The document's Dir. -/
theorem refDir_any (w : World) (v : Value) (l : List RT) (h : RtAt w v l) (hl : l.length ≤ 1000000) (hsz : ∀ r ∈ l, Gd r) : Calls Tryz.prog 20 #[v] w (DirEnd w (dirT l)) := by
  by_cases hb : 100 < l.length
  · exact refDir_big w v l h hb hl
  · cases hs : sortO l [] with
    | none => exact refDir_none w v l h (by omega) hs hsz
    | some s => exact refDir_some w v l s h (by omega) hs hsz
end Go.Proofs.YtenikoecnfbfoaaGreatDoor
