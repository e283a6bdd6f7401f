/- The law KindUnifies. -/
import Derived.Test.YthchkekegkhanaaDoorKdOrd
import Derived.Test.YthchkekegkhanaaDoorKdZat
namespace Go.Proofs.YthchkekegkhanaaDoor
open Go.RowKit Go.Maps
set_option linter.unusedVariables false

theorem refMade {w : World} {q : Nat} (h : w.heap[q]? = some (.cells #[.slice none 0 0, .int .i64 0, .int .i64 0] 38 (0, 0))) : RefAt w q [q] 0 0 Ty.var := by
  refine ⟨.slice none 0 0, 0, [], ⟨h, ⟨[], rfl, RowZ.nil _ _ _, fun i x r hx => by cases hx⟩, ?_, by simp [Value.ownBlock]⟩, rfl, Nat.le_refl _⟩
  have : look [] = fun _ => none := by funext k; rfl
  rw [this]
  exact sol_nil
theorem twoMade {w W : World} {p bm : Nat} (h : SolvAt (fun _ => True) W p bm 0 0 Ty.var) (hb : Below w.heap.size w W) (hl : w.heap.size ≤ p ∧ w.heap.size ≤ bm) :
    TwoAt w (W.alloc (.cells #[.slice none 0 0, .int .i64 0, .int .i64 0] 38)) p bm 0 0 Ty.var W.heap.size [W.heap.size] 0 0 Ty.var [] [] := by
  obtain ⟨pr, σ, h0⟩ := h
  have h := h0
  have hlp := h.lp
  have hlb := h.lb
  obtain ⟨f, hf, hk⟩ := h.map
  have h' : SolvAt (fun b => b ∉ [W.heap.size]) W p bm 0 0 Ty.var := by
    refine ⟨pr, σ, ⟨h.hdr, ⟨f, hf, fun k => ?_⟩, h.sol, h.lp, h.lb, h.ne, h.hN⟩⟩
    rcases hk k with h1 | ⟨t, v, h1, h2, h3⟩
    · exact .inl h1
    · exact .inr ⟨t, v, h1, h2, h3.mono fun b hb => ⟨hb.1, hb.2.1, hb.2.2.1, by have := hb.1; simp; omega⟩⟩
  have hba : Below W.heap.size W (W.alloc (.cells #[.slice none 0 0, .int .i64 0, .int .i64 0] 38)) := (Below.refl _ _).alloc (Nat.le_refl _) _
  exact ⟨h'.chg hba, refMade (heap_alloc_new W _), hb.trans (hba.mono hb.size), ⟨hl.1, hl.2, fun k hk => by have := hb.size; simp at hk; omega⟩, ⟨by simp; omega, by simp; omega⟩, (fun x hx => by cases hx), (fun x hx => by cases hx)⟩
/-- The two types, tamed, each in a box. -/
def UnifIn (w : World) (p bm q : Nat) (n m : Nat) (F : List Nat) (s : Int → Ty) (x y : Ty) (s10 s11 : Value) (wx : World) : Prop :=
  ∃ b10 b11 ax cx ay cy, s10 = .pointer (some ⟨b10, 0, none⟩) ∧ s11 = .pointer (some ⟨b11, 0, none⟩) ∧
    TwoAt w wx p bm n 0 s q F m 0 s [(b11, #[.int .i64 y.op, .int .i64 y.num, .string y.text, .slice ay y.kids.length cy], 40), (b10, #[.int .i64 x.op, .int .i64 x.num, .string x.text, .slice ax x.kids.length cx], 40)] [(x, tval x ax cx), (y, tval y ay cy)]
theorem unif_in {w wr W : World} {p bm q n m b10 b11 A5 B5 A7 B7 : Nat} {F : List Nat} {s : Int → Ty} {x y : Ty} {ax ay : Option Addr} {cx cy : Nat} (h : TwoAt w wr p bm n 0 s q F m 0 s [] []) (hb : Below wr.heap.size wr W)
    (z10 : Zat W b10 #[.int .i64 x.op, .int .i64 x.num, .string x.text, .slice ax x.kids.length cx] 40)
    (z11 : Zat W b11 #[.int .i64 y.op, .int .i64 y.num, .string y.text, .slice ay y.kids.length cy] 40)
    (hx : TyIs W (fun b => A5 ≤ b ∧ b < B5) x (tval x ax cx)) (hy : TyIs W (fun b => A7 ≤ b ∧ b < B7) y (tval y ay cy))
    (hn : wr.heap.size ≤ b10 ∧ wr.heap.size ≤ b11 ∧ wr.heap.size ≤ A5 ∧ wr.heap.size ≤ A7 ∧ B5 ≤ W.heap.size ∧ B7 ≤ W.heap.size) :
    UnifIn w p bm q n m F s x y (.pointer (some ⟨b10, 0, none⟩)) (.pointer (some ⟨b11, 0, none⟩)) W := by
  have hl := h.sv.lt
  have hF := h.rf.lt
  have h' := h.below hb
  have hfr : ∀ b, wr.heap.size ≤ b → b ≠ p ∧ b ≠ bm ∧ b ∉ F := fun b hb => ⟨by omega, by omega, fun hm => by have := hF b hm; omega⟩
  refine ⟨b10, b11, ax, cx, ay, cy, rfl, rfl, h'.sv, h'.rf, h'.hb, h'.lo, h'.ap, fun r hr => ?_, fun r hr => ?_⟩
  · simp only [List.mem_cons, List.not_mem_nil, or_false] at hr
    rcases hr with rfl | rfl
    · exact ⟨z11, hfr _ hn.2.1⟩
    · exact ⟨z10, hfr _ hn.1⟩
  · simp only [List.mem_cons, List.not_mem_nil, or_false] at hr
    rcases hr with rfl | rfl
    · exact hx.mono fun b hb => ⟨by omega, hfr b (by omega)⟩
    · exact hy.mono fun b hb => ⟨by omega, hfr b (by omega)⟩
theorem up8 {a w : World} {b o b' o' : Nat} {x0 x1 x2 x3 y0 y1 y2 y3 : Value} (h : Below a.heap.size a w)
    (hs : (b < a.heap.size ∧ b' < a.heap.size) ∧ (a.cell? ⟨b, o, none⟩ = some x0 ∧ a.cell? ⟨b, o + 1, none⟩ = some x1 ∧ a.cell? ⟨b, o + 2, none⟩ = some x2 ∧ a.cell? ⟨b, o + 3, none⟩ = some x3) ∧ (a.cell? ⟨b', o', none⟩ = some y0 ∧ a.cell? ⟨b', o' + 1, none⟩ = some y1 ∧ a.cell? ⟨b', o' + 2, none⟩ = some y2 ∧ a.cell? ⟨b', o' + 3, none⟩ = some y3)) :
    (w.cell? ⟨b, o, none⟩ = some x0 ∧ w.cell? ⟨b, o + 1, none⟩ = some x1 ∧ w.cell? ⟨b, o + 2, none⟩ = some x2 ∧ w.cell? ⟨b, o + 3, none⟩ = some x3) ∧ (w.cell? ⟨b', o', none⟩ = some y0 ∧ w.cell? ⟨b', o' + 1, none⟩ = some y1 ∧ w.cell? ⟨b', o' + 2, none⟩ = some y2 ∧ w.cell? ⟨b', o' + 3, none⟩ = some y3) := by
  obtain ⟨⟨h1, h2⟩, ⟨p0, p1, p2, p3⟩, ⟨q0, q1, q2, q3⟩⟩ := hs
  exact ⟨⟨(h.cell (p := ⟨b, o, none⟩) h1).trans p0, (h.cell (p := ⟨b, o + 1, none⟩) h1).trans p1, (h.cell (p := ⟨b, o + 2, none⟩) h1).trans p2, (h.cell (p := ⟨b, o + 3, none⟩) h1).trans p3⟩,
    ⟨(h.cell (p := ⟨b', o', none⟩) h2).trans q0, (h.cell (p := ⟨b', o' + 1, none⟩) h2).trans q1, (h.cell (p := ⟨b', o' + 2, none⟩) h2).trans q2, (h.cell (p := ⟨b', o' + 3, none⟩) h2).trans q3⟩⟩
theorem fr_up {w w' : World} {p bm : Nat} {F : List Nat} {t : Ty} {v : Value} (h : TyIs w (Fr w p bm F) t v) (hb : Below w.heap.size w w') : TyIs w' (Fr w' p bm F) t v := (h.below hb (fun b hb => hb.1)).mono fun b hb' => ⟨Nat.lt_of_lt_of_le hb'.1 hb.size, hb'.2⟩
theorem two_t1 {w W : World} {p bm n q m : Nat} {fr md : Int} {s s' : Int → Ty} {F : List Nat} {L : List (Nat × Array Value × TypeId)} {T : List (Ty × Value)} {t : Ty} {v : Value} (h : TwoAt w W p bm n fr s q F m md s' L ((t, v) :: T)) : TyIs W (Fr W p bm F) t v := h.ty (t, v) (.head _)
theorem two_t2 {w W : World} {p bm n q m : Nat} {fr md : Int} {s s' : Int → Ty} {F : List Nat} {L : List (Nat × Array Value × TypeId)} {T : List (Ty × Value)} {t : Ty} {v : Value} {r : Ty × Value} (h : TwoAt w W p bm n fr s q F m md s' L (r :: (t, v) :: T)) : TyIs W (Fr W p bm F) t v := h.ty (t, v) (.tail _ (.head _))
theorem fr_lt {W : World} {p bm : Nat} {F : List Nat} : ∀ b, Fr W p bm F b → b < W.heap.size := fun b h => h.1
theorem two_less {w W : World} {p bm n q m : Nat} {fr md : Int} {s s' : Int → Ty} {F : List Nat} {L : List (Nat × Array Value × TypeId)} {T : List (Ty × Value)} {r : Nat × Array Value × TypeId} (h : TwoAt w W p bm n fr s q F m md s' (r :: L) T) : TwoAt w W p bm n fr s q F m md s' L T := h.less (fun x hx => .tail _ hx) (fun x hx => hx)
theorem tm_nice' (t : VT) : (tm t).nice := tm_nice t
def UnifLoop (w : World) (p bm q : Nat) (gk : Nat) (s9 : Value) (wr : World) : Prop :=
  ∃ (i m : Nat) (F : List Nat) (s : Int → Ty), s9 = .int .i64 i ∧ i + gk = 8 ∧ TwoAt w wr p bm (10000 * i) 0 s q F m 0 s [] [] ∧ m ≤ 10000 * i ∧ NiceS s
set_option maxRecDepth 100000 in
set_option maxHeartbeats 16000000 in
theorem kindUnifies_walk (la lb : List VT) (aoa aob : Option Addr) (capa capb : Nat) (w : World) (ha1 : la.length ≤ capa ∧ capa ≤ maxLen) (hb1 : lb.length ≤ capb ∧ capb ≤ maxLen) (hka : KidsAt w (fun b => b < w.heap.size) la aoa 0) (hkb : KidsAt w (fun b => b < w.heap.size) lb aob 0) :
    Calls Tryd.prog 3 #[.slice aoa la.length capa, .slice aob lb.length capb] w fun e w' => e = .returned (.bool true) ∧ Below w.heap.size w w' := by
  have HKA := Lib.hid hka
  have HKB := Lib.hid hkb
  unfold maxLen at ha1 hb1
  clear hka hkb
  have hfd : ∀ w : World, (Instr.field 25 (.agg #[.int .i64 0, .int .i64 0, .string ⟨#[]⟩, .slice none 0 0]) 1).run Tryd.prog w = .ok (.int .i64 0) w := fun _ => by kernel_rfl
  go_enter Tryd.func3, Tryd.ntmps3
  have BW : Hid (Below w.heap.size w w) := Below.refl _ _
  go_upto_region 4 with (first
    | (go_at_call 9; (with_reducible refine (none_any _).mono ?_); rintro e w1 ⟨rfl, hb⟩; have BWn := Lib.hid ((BW.out).trans (hb.mono (BW.out.size))); clear BW hb; have BW := BWn; clear BWn)
    | (go_at_call 11; (with_reducible refine (var_any _ _).mono ?_); rintro e w2 ⟨rfl, hb⟩; have BWn := Lib.hid ((BW.out).trans (hb.mono (BW.out.size))); clear BW hb; have BW := BWn; clear BWn)
    | (go_at_call 10; (with_reducible refine (full_nil _ _ _ _ _).mono ?_); rintro e w3 ⟨rfl, hb⟩; have BWn := Lib.hid ((BW.out).trans (hb.mono (BW.out.size))); clear BW hb; have BW := BWn; clear BWn)
    | (go_at_call 12; (with_reducible refine (kinds_any _).mono ?_); rintro e w4 ⟨rfl, hb⟩; have BWn := Lib.hid ((BW.out.alloc BW.out.size _).trans (hb.mono (by have := BW.out.size; simp; omega))); clear BW hb; have BW := BWn; clear BWn)
    | (go_at_call 13; (with_reducible refine (unify_nil _ _ _ _ _ _ _ _ _).mono ?_); rintro e w5 ⟨rfl, hb⟩; have BWn := Lib.hid ((BW.out).trans (hb.mono (BW.out.size))); clear BW hb; have BW := BWn; clear BWn)
    | (go_at_call 14; (with_reducible refine (fresh_nil _).mono ?_); rintro e w6 ⟨rfl, hb⟩; have BWn := Lib.hid ((BW.out).trans (hb.mono (BW.out.size))); clear BW hb; have BW := BWn; clear BWn))
  clear hfd
  go_wp2_with (go_at_call 15; (with_reducible refine (newAt_any (R := fun _ => True) _).mono ?_); rintro e w1 ⟨rfl, hs1, hb1, hz1⟩; have S1 := Lib.hid hs1; have B1 := Lib.hid hb1; have Z1 := Lib.hid hz1; clear hs1 hb1 hz1)
  have hT := twoMade S1.out (BW.out.trans (B1.out.mono BW.out.size)) ⟨by have := BW.out.size; omega, BW.out.size⟩
  generalize w1.alloc (.cells #[.slice none 0 0, .int .i64 0, .int .i64 0] 38) = W1 at hT ⊢
  generalize w1.heap.size = q at hT ⊢
  generalize w6.heap.size + 1 = p at hT ⊢
  generalize w6.heap.size = bm at hT
  have HL : Hid (UnifLoop w p bm q 8 (.int .i64 0) W1) := ⟨0, 0, [q], Ty.var, rfl, rfl, hT, Nat.le_refl _, NiceS.var⟩
  clear hT S1 B1 Z1 BW
  go_loopg [9, 10, 11, 12, 13, 14, 15, 16, 17, 18, 19, 20] 8 (fun gk s9 s10 s11 s12 s13 s14 s15 s16 s17 s18 s19 s20 wr => UnifLoop w p bm q gk s9 wr)
  case atStart => exact HL.out
  case round =>
    clear HL
    obtain ⟨i, m, F, s, rfl, hik, hT, hm, hn⟩ := hrel
    have HT := Lib.hid hT
    have HM := Lib.hid hm
    have HN := Lib.hid hn
    clear hT hm hn
    have g0 : (0 : Int) ≤ (i : Int) := by omega
    by_cases hlt : i < la.length ∧ i < lb.length ∧ i < 8
    · obtain ⟨h1, h2, h3⟩ := hlt
      have g1 : (i : Int) < (la.length : Int) := by omega
      have g2 : (i : Int) < (lb.length : Int) := by omega
      have g3 : (i : Int) < 8 := by omega
      obtain ⟨ta, hta⟩ : ∃ u, la[i]? = some u := ⟨_, List.getElem?_eq_getElem h1⟩
      obtain ⟨tb, htb⟩ : ∃ u, lb[i]? = some u := ⟨_, List.getElem?_eq_getElem h2⟩
      obtain ⟨ba', oa, x0, x1, x2, x3, rfl, hpa, p0, p1, p2, p3, hva⟩ := HKA.out.get hta
      obtain ⟨bb', ob, y0, y1, y2, y3, rfl, hpb, q0, q1, q2, q3, hvb⟩ := HKB.out.get htb
      rw [Nat.zero_add] at p0 p1 p2 p3 q0 q1 q2 q3
      replace p0 := (HT.out.hb.cell (p := ⟨ba', oa + i * 4, none⟩) hpa).trans p0
      replace p1 := (HT.out.hb.cell (p := ⟨ba', oa + i * 4 + 1, none⟩) hpa).trans p1
      replace p2 := (HT.out.hb.cell (p := ⟨ba', oa + i * 4 + 2, none⟩) hpa).trans p2
      replace p3 := (HT.out.hb.cell (p := ⟨ba', oa + i * 4 + 3, none⟩) hpa).trans p3
      replace q0 := (HT.out.hb.cell (p := ⟨bb', ob + i * 4, none⟩) hpb).trans q0
      replace q1 := (HT.out.hb.cell (p := ⟨bb', ob + i * 4 + 1, none⟩) hpb).trans q1
      replace q2 := (HT.out.hb.cell (p := ⟨bb', ob + i * 4 + 2, none⟩) hpb).trans q2
      replace q3 := (HT.out.hb.cell (p := ⟨bb', ob + i * 4 + 3, none⟩) hpb).trans q3
      have hpa' := Nat.lt_of_lt_of_le hpa HT.out.hb.size
      have hpb' := Nat.lt_of_lt_of_le hpb HT.out.hb.size
      have HS8 := Lib.hid (And.intro (And.intro hpa' hpb') (And.intro (And.intro p0 (And.intro p1 (And.intro p2 p3))) (And.intro q0 (And.intro q1 (And.intro q2 q3)))))
      have HKP := Lib.hid (fun (W : World) (hW : Below wr.heap.size wr W) => up8 hW HS8.out)
      have HA : Hid (∀ W, Below wr.heap.size wr W → Calls Tryd.prog 16 #[.agg #[x0, x1, x2, x3]] W (NewTy W (tm ta))) := fun W hW => tame_any (hva.below (bt HT.out.hb hW |>.mono (Nat.le_refl _)) (fun b hb => hb)) (fun b hb => Nat.lt_of_lt_of_le hb (bt HT.out.hb hW).size)
      have HBB : Hid (∀ W, Below wr.heap.size wr W → Calls Tryd.prog 16 #[.agg #[y0, y1, y2, y3]] W (NewTy W (tm tb))) := fun W hW => tame_any (hvb.below (bt HT.out.hb hW |>.mono (Nat.le_refl _)) (fun b hb => hb)) (fun b hb => Nat.lt_of_lt_of_le hb (bt HT.out.hb hW).size)
      clear hta htb hpa hpb hva hvb
      unfold NewTy tval at HA HBB
      go_upto_region 8 with fail
      go_cut [10, 11] (fun s10 s11 wx => UnifIn w p bm q (10000 * i) m F s (tm ta) (tm tb) s10 s11 wx)
      case first =>
       go_region_held3 (fun w' => (w'.cell? ⟨ba', oa + i * 4, none⟩ = some x0 ∧ w'.cell? ⟨ba', oa + i * 4 + 1, none⟩ = some x1 ∧ w'.cell? ⟨ba', oa + i * 4 + 2, none⟩ = some x2 ∧ w'.cell? ⟨ba', oa + i * 4 + 3, none⟩ = some x3) ∧ (w'.cell? ⟨bb', ob + i * 4, none⟩ = some y0 ∧ w'.cell? ⟨bb', ob + i * 4 + 1, none⟩ = some y1 ∧ w'.cell? ⟨bb', ob + i * 4 + 2, none⟩ = some y2 ∧ w'.cell? ⟨bb', ob + i * 4 + 3, none⟩ = some y3))
        (first | (with_reducible refine HKP.out _ ?_; (with_reducible repeat (first | exact B7.out | exact B5.out | exact Below.refl _ _ | apply ba | apply bd | (refine bs ?_ (by first | exact Nat.le_refl _ | exact z5 | exact z7 | exact Nat.le_succ _ | exact Nat.le_succ_of_le z5 | exact Nat.le_succ_of_le z7 | (simp; omega)) _)))) | go_keep)
        (first
          | (go_at_call 16; (with_reducible refine (HA.out _ ?_).mono ?_); · (with_reducible repeat (first | exact B7.out | exact B5.out | exact Below.refl _ _ | apply ba | apply bd | (refine bs ?_ (by first | exact Nat.le_refl _ | exact z5 | exact z7 | exact Nat.le_succ _ | exact Nat.le_succ_of_le z5 | exact Nat.le_succ_of_le z7 | (simp; omega)) _)))
             rintro e w5 ⟨a5, c5, rfl, ht5, hb5⟩; have B5 : Hid (Below wr.heap.size wr w5) := (bt (by (with_reducible repeat (first | exact B7.out | exact B5.out | exact Below.refl _ _ | apply ba | apply bd | (refine bs ?_ (by first | exact Nat.le_refl _ | exact z5 | exact z7 | exact Nat.le_succ _ | exact Nat.le_succ_of_le z5 | exact Nat.le_succ_of_le z7 | (simp; omega)) _)))) hb5 : Below wr.heap.size wr w5); obtain ⟨hc5, hf5⟩ := bcell hb5; (try (have k1 : wr.heap.size < w5.heap.size := by (have := hb5.size; first | omega | (simp at this; omega)))); (try (have k2 : wr.heap.size + 1 < w5.heap.size := by (have := hb5.size; first | omega | (simp at this; omega)))); have z5 : wr.heap.size ≤ w5.heap.size := B5.out.size; obtain ⟨A5, E5, T5⟩ := ty_out ht5; change Hid (TyIs _ _ _ (tval (tm ta) a5 c5)) at T5; have C5 := Lib.hid hb5; clear ht5 hb5 HA)
          | (go_at_call 16; (with_reducible refine (HBB.out _ ?_).mono ?_); · (with_reducible repeat (first | exact B7.out | exact B5.out | exact Below.refl _ _ | apply ba | apply bd | (refine bs ?_ (by first | exact Nat.le_refl _ | exact z5 | exact z7 | exact Nat.le_succ _ | exact Nat.le_succ_of_le z5 | exact Nat.le_succ_of_le z7 | (simp; omega)) _)))
             rintro e w7 ⟨a7, c7, rfl, ht7, hb7⟩; have B7 : Hid (Below wr.heap.size wr w7) := (bt (by (with_reducible repeat (first | exact B7.out | exact B5.out | exact Below.refl _ _ | apply ba | apply bd | (refine bs ?_ (by first | exact Nat.le_refl _ | exact z5 | exact z7 | exact Nat.le_succ _ | exact Nat.le_succ_of_le z5 | exact Nat.le_succ_of_le z7 | (simp; omega)) _)))) hb7 : Below wr.heap.size wr w7); obtain ⟨hc7, hf7⟩ := bcell hb7; (try (have k3 : wr.heap.size < w7.heap.size := by (have := hb7.size; first | omega | (simp at this; omega)))); (try (have k4 : wr.heap.size + 1 < w7.heap.size := by (have := hb7.size; first | omega | (simp at this; omega)))); (try (have k5 : w5.heap.size < w7.heap.size := by (have := hb7.size; first | omega | (simp at this; omega)))); (try (have k6 : w5.heap.size + 1 < w7.heap.size := by (have := hb7.size; first | omega | (simp at this; omega)))); have z7 : wr.heap.size ≤ w7.heap.size := B7.out.size; have z57 : w5.heap.size ≤ w7.heap.size := (by have := hb7.size; first | omega | (simp at this; omega)); obtain ⟨A7, E7, T7⟩ := ty_out ht7; change Hid (TyIs _ _ _ (tval (tm tb) a7 c7)) at T7; have C7 := Lib.hid hb7; clear ht7 hb7 HBB))
       all_goals go_wp2
       all_goals go_meet
       all_goals (
        have e5 := E5.out
        have e7 := E7.out
        simp only [World.size_alloc, World.size_drew] at e5 e7
        with_reducible refine unif_in (A5 := A5) (B5 := w5.heap.size) (A7 := A7) (B7 := w7.heap.size) (ax := a5) (cx := c5) (ay := a7) (cy := c7) HT.out ?hb ?z10 ?z11 ?hx ?hy ?hn
        case hb => (with_reducible repeat (first | exact B7.out | exact B5.out | exact Below.refl _ _ | apply ba | apply bd | (refine bs ?_ (by first | exact Nat.le_refl _ | exact z5 | exact z7 | exact Nat.le_succ _ | exact Nat.le_succ_of_le z5 | exact Nat.le_succ_of_le z7 | (simp; omega)) _)))
        case z10 => (repeat (first | ((with_reducible refine z_new ?_); · (simp; done)) | (with_reducible refine z_set ?_) | ((with_reducible refine z_nes ?_ ?_); · omega) | (with_reducible refine z_old ?_) | (with_reducible refine z_below C7.out ?_) | (with_reducible refine z_below C5.out ?_) | (with_reducible refine z_drew ?_) | ((with_reducible refine f_new ?_); · (simp; done)) | ((with_reducible refine f_nes ?_ ?_); · omega) | (with_reducible refine f_old ?_) | (with_reducible refine f_below C7.out ?_) | (with_reducible refine f_below C5.out ?_) | (with_reducible refine f_drew ?_)))
        case z11 => (repeat (first | ((with_reducible refine z_new ?_); · (simp; done)) | (with_reducible refine z_set ?_) | ((with_reducible refine z_nes ?_ ?_); · omega) | (with_reducible refine z_old ?_) | (with_reducible refine z_below C7.out ?_) | (with_reducible refine z_below C5.out ?_) | (with_reducible refine z_drew ?_) | ((with_reducible refine f_new ?_); · (simp; done)) | ((with_reducible refine f_nes ?_ ?_); · omega) | (with_reducible refine f_old ?_) | (with_reducible refine f_below C7.out ?_) | (with_reducible refine f_below C5.out ?_) | (with_reducible refine f_drew ?_)))
        case hx => (repeat (first | (with_reducible exact T5.out) | ((with_reducible refine ty_sets ?_ ?_); · omega) | ((with_reducible refine ty_new ?_ ?_); · (first | omega | (simp; done) | (simp; omega))) | ((with_reducible refine ty_below ?_ C7.out ?_); · (first | omega | (simp; done) | (simp; omega))) | (with_reducible refine ty_drew ?_)))
        case hy => (repeat (first | (with_reducible exact T7.out) | ((with_reducible refine ty_sets ?_ ?_); · omega) | ((with_reducible refine ty_new ?_ ?_); · (first | omega | (simp; done) | (simp; omega))) | ((with_reducible refine ty_below ?_ C7.out ?_); · (first | omega | (simp; done) | (simp; omega))) | (with_reducible refine ty_drew ?_)))
        case hn => (first | omega | (simp; done) | (simp; omega)))
      case rest =>
        obtain ⟨b10, b11, ax, cx, ay, cy, rfl, rfl, hT2⟩ := hcut
        rename World => wx
        obtain ⟨x, hx⟩ : ∃ x, x = tm ta := ⟨_, rfl⟩
        obtain ⟨y, hy⟩ : ∃ y, y = tm tb := ⟨_, rfl⟩
        rw [← hx, ← hy] at hT2
        have HX : Hid (x.nice ∧ x.sz ≤ 60) := by rw [hx]; exact ⟨tm_nice' _, tm_sz _⟩
        have HY : Hid (y.nice ∧ y.sz ≤ 60) := by rw [hy]; exact ⟨tm_nice' _, tm_sz _⟩
        unfold tval at hT2
        have H0 := Lib.hid hT2
        clear hx hy HA HBB HKP HS8 HT p0 p1 p2 p3 q0 q1 q2 q3
        have hm9 : m ≤ 80 * 1000 := by have := HM.out; omega
        have HTO : Hid (∀ (W : World) (t : Ty) (v : Value) (P : Nat → Prop), TyIs W P t v → (∀ b, P b → b < W.heap.size) → t.sz ≤ 60 → Calls Tryd.prog 17 #[v] W (NewTy W t)) := fun W t v P h hP hz => to_walk t.sz t v W P (Nat.le_refl _) (by omega) h hP
        have HUN : Hid (∀ (W : World) (F' : List Nat) (m' : Nat) (s' : Int → Ty) va vb, TwoAt w W p bm (10000 * i) 0 s q F' m' 0 s' [(b11, #[.int .i64 y.op, .int .i64 y.num, .string y.text, .slice ay y.kids.length cy], 40), (b10, #[.int .i64 x.op, .int .i64 x.num, .string x.text, .slice ax x.kids.length cx], 40)] [(x, .agg #[.int .i64 x.op, .int .i64 x.num, .string x.text, .slice ax x.kids.length cx]), (y, .agg #[.int .i64 y.op, .int .i64 y.num, .string y.text, .slice ay y.kids.length cy])] → TyIs W (Fr W p bm F') x va → TyIs W (Fr W p bm F') y vb → Calls Tryd.prog 13 #[.pointer (some ⟨p, 0, none⟩), va, vb] W fun e w' => e = .returned (.int .i64 (uni s x y).1) ∧ TwoAt w w' p bm (10000 * i + 10000) 0 (uni s x y).2 q F' m' 0 s' [(b11, #[.int .i64 y.op, .int .i64 y.num, .string y.text, .slice ay y.kids.length cy], 40), (b10, #[.int .i64 x.op, .int .i64 x.num, .string x.text, .slice ax x.kids.length cx], 40)] [(x, .agg #[.int .i64 x.op, .int .i64 x.num, .string x.text, .slice ax x.kids.length cx]), (y, .agg #[.int .i64 y.op, .int .i64 y.num, .string y.text, .slice ay y.kids.length cy])]) := fun W F' m' s' va vb h h1 h2 => twoUnify h (by omega) h1 h2 (by have := HX.out.2; omega) (by have := HY.out.2; omega)
        have HRF : Hid (∀ (W : World) (s' : Int → Ty) (n' : Nat), TwoAt w W p bm n' 0 s' q F m 0 s [(b11, #[.int .i64 y.op, .int .i64 y.num, .string y.text, .slice ay y.kids.length cy], 40), (b10, #[.int .i64 x.op, .int .i64 x.num, .string x.text, .slice ax x.kids.length cx], 40)] [(x, .agg #[.int .i64 x.op, .int .i64 x.num, .string x.text, .slice ax x.kids.length cx]), (y, .agg #[.int .i64 y.op, .int .i64 y.num, .string y.text, .slice ay y.kids.length cy])] → Calls Tryd.prog 18 #[.pointer (some ⟨q, 0, none⟩), .agg #[.int .i64 x.op, .int .i64 x.num, .string x.text, .slice ax x.kids.length cx], .agg #[.int .i64 y.op, .int .i64 y.num, .string y.text, .slice ay y.kids.length cy]] W fun e w' => e = .returned (.int .i64 (uni s x y).1) ∧ ∃ F', TwoAt w w' p bm n' 0 s' q F' (m + 10000) 0 (uni s x y).2 [(b11, #[.int .i64 y.op, .int .i64 y.num, .string y.text, .slice ay y.kids.length cy], 40), (b10, #[.int .i64 x.op, .int .i64 x.num, .string x.text, .slice ax x.kids.length cx], 40)] [(x, .agg #[.int .i64 x.op, .int .i64 x.num, .string x.text, .slice ax x.kids.length cx]), (y, .agg #[.int .i64 y.op, .int .i64 y.num, .string y.text, .slice ay y.kids.length cy])]) := fun W s' n' h => twoRef h (by omega) (two_t1 h) (two_t2 h)
        have HNU : Hid (NiceS (uni s x y).2) := HN.out.uni HX.out.1 HY.out.1
        unfold NewTy tval at HTO
        obtain ⟨⟨d0, d1, d2, d3⟩, ⟨c0, c1, c2, c3⟩⟩ := hT2.two.symm
        clear hT2
        have hee : ((uni s x y).1 != (uni s x y).1) = false := by simp
        have HID : Hid (Idem (uni s x y).2 ∧ ((uni s x y).1 = 0 → x.sub (uni s x y).2 = y.sub (uni s x y).2)) := by
          have mm := pairF_made 10001 (s, 10000) x y H0.out.sv.idem
          exact ⟨mm.idem, mm.one⟩
        generalize (uni s x y).1 = e1 at HUN HRF hee HID
        generalize (uni s x y).2 = s1 at HUN HRF HNU HID
        go_wp2
        go_region_held3 (fun w' => (w'.cell? ⟨b10, 0, none⟩ = some (.int .i64 x.op) ∧ w'.cell? ⟨b10, 1, none⟩ = some (.int .i64 x.num) ∧ w'.cell? ⟨b10, 2, none⟩ = some (.string x.text) ∧ w'.cell? ⟨b10, 3, none⟩ = some (.slice ax x.kids.length cx)) ∧ (w'.cell? ⟨b11, 0, none⟩ = some (.int .i64 y.op) ∧ w'.cell? ⟨b11, 1, none⟩ = some (.int .i64 y.num) ∧ w'.cell? ⟨b11, 2, none⟩ = some (.string y.text) ∧ w'.cell? ⟨b11, 3, none⟩ = some (.slice ay y.kids.length cy)))
          (with_reducible (first | exact U5.out.two | exact U4.out.two | exact U3.out.two | exact H0.out.two | go_keep))
          (first
            | (go_at_call 17; (with_reducible refine (HTO.out _ x _ _ (two_t1 (H0.out.below (bd (Below.refl _ _)))) fr_lt HX.out.2).mono ?_); rintro e w3 ⟨a3, c3', rfl, ht3, hb3⟩; have U3 := Lib.hid ((H0.out.below (bd (Below.refl _ _))).below hb3); have T3 := Lib.hid ((H0.out.below (bd (Below.refl _ _))).new hb3 ht3); clear ht3 hb3)
            | (go_at_call 17; (with_reducible refine (HTO.out _ y _ _ (two_t2 U3.out) fr_lt HY.out.2).mono ?_); rintro e w4 ⟨a4, c4, rfl, ht4, hb4⟩; have U4 := Lib.hid (U3.out.below hb4); have T4 := Lib.hid (U3.out.new hb4 ht4); have T34 := Lib.hid (fr_up T3.out hb4); clear ht4 hb4)
            | (go_at_call 13; (with_reducible refine (HUN.out _ _ _ _ _ _ U4.out T34.out T4.out).mono ?_); rintro e w5 ⟨rfl, hu5⟩; have U5 := Lib.hid hu5; clear hu5))
        clear c0 c1 c2 c3 d0 d1 d2 d3
        obtain ⟨⟨d0, d1, d2, d3⟩, ⟨c0, c1, c2, c3⟩⟩ := U5.out.two.symm
        have HSH : Hid (∀ (W : World) (n' : Nat) (F' : List Nat) (m' : Nat), TwoAt w W p bm n' 0 s1 q F' m' 0 s1 [(b11, #[.int .i64 y.op, .int .i64 y.num, .string y.text, .slice ay y.kids.length cy], 40), (b10, #[.int .i64 x.op, .int .i64 x.num, .string x.text, .slice ax x.kids.length cx], 40)] [(x, .agg #[.int .i64 x.op, .int .i64 x.num, .string x.text, .slice ax x.kids.length cx]), (y, .agg #[.int .i64 y.op, .int .i64 y.num, .string y.text, .slice ay y.kids.length cy])] → Calls Tryd.prog 19 #[.pointer (some ⟨p, 0, none⟩)] W fun e w' => e = .returned (.tuple #[.string (shownR s1).1, .int .i64 (shownR s1).2]) ∧ Below W.heap.size W w') := fun W n' F' m' h => shown_any h.sv HNU.out
        have HWA : Hid (∀ (W : World) (n' : Nat) (F' : List Nat) (m' : Nat), TwoAt w W p bm n' 0 s1 q F' m' 0 s1 [(b11, #[.int .i64 y.op, .int .i64 y.num, .string y.text, .slice ay y.kids.length cy], 40), (b10, #[.int .i64 x.op, .int .i64 x.num, .string x.text, .slice ax x.kids.length cx], 40)] [(x, .agg #[.int .i64 x.op, .int .i64 x.num, .string x.text, .slice ax x.kids.length cx]), (y, .agg #[.int .i64 y.op, .int .i64 y.num, .string y.text, .slice ay y.kids.length cy])] → Calls Tryd.prog 20 #[.pointer (some ⟨q, 0, none⟩)] W fun e w' => e = .returned (.tuple #[.string (shownR s1).1, .int .i64 (shownR s1).2]) ∧ Below W.heap.size W w') := fun W n' F' m' h => want_any h.rf HNU.out
        have hes : ((shownR s1).2 != (shownR s1).2) = false := by simp
        generalize (shownR s1).1 = xs at HSH HWA
        generalize (shownR s1).2 = es at HSH HWA hes
        go_upto_region 16 with (first
          | (go_at_call 18; (with_reducible refine (HRF.out _ _ _ U5.out).mono ?_); clear HRF; rintro e w6 ⟨rfl, F', hu6⟩; have U6 := Lib.hid hu6; clear hu6)
          | (go_at_call 19; (with_reducible refine (HSH.out _ _ _ _ U6.out).mono ?_); clear HSH; rintro e w7 ⟨rfl, hb7⟩; have U7 := Lib.hid (U6.out.below hb7); clear hb7)
          | (go_at_call 20; (with_reducible refine (HWA.out _ _ _ _ U7.out).mono ?_); clear HWA; rintro e w8 ⟨rfl, hb8⟩; have U8 := Lib.hid (U7.out.below hb8); clear hb8))
        clear c0 c1 c2 c3 d0 d1 d2 d3 hes hee
        have HEND : Hid (∀ W, Below w8.heap.size w8 W → UnifLoop w p bm q (gk - 1) (.int .i64 ((i : Int) + 1)) W) := fun W hW => by
          have h1 := (U8.out.below hW).less (L' := []) (T' := []) (fun x hx => by cases hx) (fun x hx => by cases hx)
          exact ⟨i + 1, m + 10000, F', s1, by go_num, by omega, ⟨h1.sv.mono (by omega), h1.rf, h1.hb, h1.lo, h1.ap, h1.bx, h1.ty⟩, by have := HM.out; omega, HNU.out⟩
        by_cases he : e1 = 0
        · have hs1 := HID.out.2 he
          subst he
          obtain ⟨z, hzx⟩ : ∃ z, z = x.sub s1 := ⟨_, rfl⟩
          have hzy : z = y.sub s1 := hzx.trans hs1
          obtain ⟨⟨d0, d1, d2, d3⟩, ⟨c0, c1, c2, c3⟩⟩ := U8.out.two.symm
          by_cases hz : z.sz ≤ 1000
          · have HFX : Hid (∀ (W : World) (n' : Nat) (F' : List Nat) (m' : Nat) (v : Value), TwoAt w W p bm n' 0 s1 q F' m' 0 s1 [(b11, #[.int .i64 y.op, .int .i64 y.num, .string y.text, .slice ay y.kids.length cy], 40), (b10, #[.int .i64 x.op, .int .i64 x.num, .string x.text, .slice ax x.kids.length cx], 40)] [(x, .agg #[.int .i64 x.op, .int .i64 x.num, .string x.text, .slice ax x.kids.length cx]), (y, .agg #[.int .i64 y.op, .int .i64 y.num, .string y.text, .slice ay y.kids.length cy])] → TyIs W (Fr W p bm F') x v → Calls Tryd.prog 10 #[.pointer (some ⟨p, 0, none⟩), v] W (YesEnd W z)) := fun W n' F' m' v h hv => by rw [hzx]; exact h.sv.full_yes x v hv (by rw [← hzx]; exact hz)
            have HFY : Hid (∀ (W : World) (n' : Nat) (F' : List Nat) (m' : Nat) (v : Value), TwoAt w W p bm n' 0 s1 q F' m' 0 s1 [(b11, #[.int .i64 y.op, .int .i64 y.num, .string y.text, .slice ay y.kids.length cy], 40), (b10, #[.int .i64 x.op, .int .i64 x.num, .string x.text, .slice ax x.kids.length cx], 40)] [(x, .agg #[.int .i64 x.op, .int .i64 x.num, .string x.text, .slice ax x.kids.length cx]), (y, .agg #[.int .i64 y.op, .int .i64 y.num, .string y.text, .slice ay y.kids.length cy])] → TyIs W (Fr W p bm F') y v → Calls Tryd.prog 10 #[.pointer (some ⟨p, 0, none⟩), v] W (YesEnd W z)) := fun W n' F' m' v h hv => by rw [hzy]; exact h.sv.full_yes y v hv (by rw [← hzy]; exact hz)
            have HZ := Lib.hid hz
            clear hzx hzy hz hs1
            unfold YesEnd tval at HFX HFY
            go_upto_region 19 with (first
              | (go_at_call 17; (with_reducible refine (HTO.out _ x _ _ (two_t1 U8.out) fr_lt HX.out.2).mono ?_); rintro e w9 ⟨a9, c9, rfl, ht9, hb9⟩; have U9 := Lib.hid (U8.out.below hb9); have T9 := Lib.hid (U8.out.new hb9 ht9); have D9 := Lib.hid hb9; clear ht9 hb9)
              | (go_at_call 10; (with_reducible refine (HFX.out _ _ _ _ _ U9.out T9.out).mono ?_); rintro e w10 ⟨a10, c10, rfl, ht10, hb10⟩; have U10 := Lib.hid (U9.out.below hb10); have D10 := Lib.hid hb10; have U10b := Lib.hid (U10.out.box #[.int .i64 z.op, .int .i64 z.num, .string z.text, .slice a10 z.kids.length c10] 25); obtain ⟨f0, f1, f2, f3⟩ := U10b.out.at4 (b := b11) (List.Mem.tail _ (List.Mem.head _)); have Z10 := Lib.hid (TyOf.new ht10); clear ht10; clear hb10)
              | (go_at_call 17; (with_reducible refine (HTO.out _ y _ _ (two_t2 U10b.out) fr_lt HY.out.2).mono ?_); rintro e w11 ⟨a11, c11, rfl, ht11, hb11⟩; have U11 := Lib.hid (U10b.out.below hb11); have T11 := Lib.hid (U10b.out.new hb11 ht11); have C11 := Lib.hid hb11; clear ht11 hb11)
              | (go_at_call 10; (with_reducible refine (HFY.out _ _ _ _ _ (two_less U11.out) T11.out).mono ?_); rintro e w12 ⟨a12, c12, rfl, ht12, hb12⟩; have U12 := Lib.hid (U11.out.below hb12); have D12 := Lib.hid hb12; have Z12 := Lib.hid (TyOf.new ht12); clear ht12; clear hb12))
            have BE : Hid (Below w8.heap.size w8 w12) := bt (bt (ba (bt D9.out D10.out) _) C11.out) D12.out
            have hu13 := U12.out.box #[.int .i64 z.op, .int .i64 z.num, .string z.text, .slice a12 z.kids.length c12] 25
            have hz12 := Z12.out.up (ba (Below.refl w12.heap.size w12) (.cells #[.int .i64 z.op, .int .i64 z.num, .string z.text, .slice a12 z.kids.length c12] 25))
            have hz10 := (((Z10.out.up (ba (Below.refl w10.heap.size w10) (.cells #[.int .i64 z.op, .int .i64 z.num, .string z.text, .slice a10 z.kids.length c10] 25))).up C11.out).up D12.out).up (ba (Below.refl w12.heap.size w12) (.cells #[.int .i64 z.op, .int .i64 z.num, .string z.text, .slice a12 z.kids.length c12] 25))
            have hbe := ba BE.out (.cells #[.int .i64 z.op, .int .i64 z.num, .string z.text, .slice a12 z.kids.length c12] 25)
            generalize w12.alloc (.cells #[.int .i64 z.op, .int .i64 z.num, .string z.text, .slice a12 z.kids.length c12] 25) = W13 at hu13 hz12 hz10 hbe ⊢
            generalize w12.heap.size = b19 at hu13 ⊢
            generalize w10.heap.size = b17 at hu13 ⊢
            have U13 := Lib.hid hu13
            have ZA := Lib.hid hz10
            have ZB := Lib.hid hz12
            have BF := Lib.hid hbe
            clear c0 c1 c2 c3 d0 d1 d2 d3 f0 f1 f2 f3
            obtain ⟨⟨c0, c1, c2, c3⟩, ⟨d0, d1, d2, d3⟩⟩ := hu13.two
            clear hu13 hz10 hz12 hbe HFX HFY
            have HFR : Hid (∀ (W : World) (v : Value), TyOf W z v → Calls Tryd.prog 22 #[v] W (NewTy W z)) := fun W v h => from_walk z.sz z v W _ (Nat.le_refl _) (by have := HZ.out; omega) h (fun b hb => hb)
            have HSM : Hid (∀ W va vb, TyOf W z va → TyOf W z vb → Calls Tryd.prog 21 #[va, vb] W fun e w' => e = .returned (.bool true) ∧ Below W.heap.size W w') := fun W va vb h1 h2 => by
              have := refSame_walk z.sz z z va vb W _ (Nat.le_refl _) h1 h2 (fun b hb => hb)
              rw [Ty.same_refl] at this
              exact this
            unfold NewTy tval at HFR
            go_region_held3 (fun w' => (w'.cell? ⟨b17, 0, none⟩ = some (.int .i64 z.op) ∧ w'.cell? ⟨b17, 1, none⟩ = some (.int .i64 z.num) ∧ w'.cell? ⟨b17, 2, none⟩ = some (.string z.text) ∧ w'.cell? ⟨b17, 3, none⟩ = some (.slice a10 z.kids.length c10)) ∧ (w'.cell? ⟨b19, 0, none⟩ = some (.int .i64 z.op) ∧ w'.cell? ⟨b19, 1, none⟩ = some (.int .i64 z.num) ∧ w'.cell? ⟨b19, 2, none⟩ = some (.string z.text) ∧ w'.cell? ⟨b19, 3, none⟩ = some (.slice a12 z.kids.length c12)))
              (with_reducible (first | exact V3.out.two | exact V2.out.two | exact V1.out.two | exact U13.out.two | go_keep))
              (first
                | (go_at_call 22; (with_reducible refine (HFR.out _ _ (ZA.out.up (bd (Below.refl _ _)))).mono ?_); rintro e v1 ⟨k1, l1, rfl, ht, hb⟩; have V1 := Lib.hid ((U13.out.below (bd (Below.refl _ _))).below hb); have D1 := Lib.hid (bt (bd (Below.refl W13.heap.size W13)) hb); have Y1 := Lib.hid (TyOf.new ht); clear ht hb ZA)
                | (go_at_call 22; (with_reducible refine (HFR.out _ _ (ZB.out.up D1.out)).mono ?_); rintro e v2 ⟨k2, l2, rfl, ht, hb⟩; have V2 := Lib.hid (V1.out.below hb); have Y2 := Lib.hid (TyOf.new ht); have Y12 := Lib.hid (Y1.out.up hb); have D2 := Lib.hid (bt D1.out hb); clear ht hb)
                | (go_at_call 21; (with_reducible refine (HSM.out _ _ _ Y12.out Y2.out).mono ?_); rintro e v3 ⟨rfl, hb⟩; have V3 := Lib.hid (V2.out.below hb); have D3 := Lib.hid (bt D2.out hb); clear hb))
            go_wp2
            go_roundg (gk - 1)
            case measure => omega
            case rel => exact HEND.out _ (bt BF.out D3.out)
          · have HFX : Hid (∀ (W : World) (n' : Nat) (F' : List Nat) (m' : Nat) (v : Value), TwoAt w W p bm n' 0 s1 q F' m' 0 s1 [(b11, #[.int .i64 y.op, .int .i64 y.num, .string y.text, .slice ay y.kids.length cy], 40), (b10, #[.int .i64 x.op, .int .i64 x.num, .string x.text, .slice ax x.kids.length cx], 40)] [(x, .agg #[.int .i64 x.op, .int .i64 x.num, .string x.text, .slice ax x.kids.length cx]), (y, .agg #[.int .i64 y.op, .int .i64 y.num, .string y.text, .slice ay y.kids.length cy])] → TyIs W (Fr W p bm F') x v → Calls Tryd.prog 10 #[.pointer (some ⟨p, 0, none⟩), v] W (NoEnd W 4)) := fun W n' F' m' v h hv => h.sv.full_no x v hv (by rw [← hzx]; exact hz)
            have HFY : Hid (∀ (W : World) (n' : Nat) (F' : List Nat) (m' : Nat) (v : Value), TwoAt w W p bm n' 0 s1 q F' m' 0 s1 [(b11, #[.int .i64 y.op, .int .i64 y.num, .string y.text, .slice ay y.kids.length cy], 40), (b10, #[.int .i64 x.op, .int .i64 x.num, .string x.text, .slice ax x.kids.length cx], 40)] [(x, .agg #[.int .i64 x.op, .int .i64 x.num, .string x.text, .slice ax x.kids.length cx]), (y, .agg #[.int .i64 y.op, .int .i64 y.num, .string y.text, .slice ay y.kids.length cy])] → TyIs W (Fr W p bm F') y v → Calls Tryd.prog 10 #[.pointer (some ⟨p, 0, none⟩), v] W (NoEnd W 4)) := fun W n' F' m' v h hv => h.sv.full_no y v hv (by rw [← hzy]; exact hz)
            clear hzx hzy hz hs1
            unfold NoEnd at HFX HFY
            go_upto_region 19 with (first
              | (go_at_call 17; (with_reducible refine (HTO.out _ x _ _ (two_t1 U8.out) fr_lt HX.out.2).mono ?_); rintro e w9 ⟨a9, c9, rfl, ht9, hb9⟩; have U9 := Lib.hid (U8.out.below hb9); have T9 := Lib.hid (U8.out.new hb9 ht9); have D9 := Lib.hid hb9; clear ht9 hb9)
              | (go_at_call 10; (with_reducible refine (HFX.out _ _ _ _ _ U9.out T9.out).mono ?_); rintro e w10 ⟨rfl, hb10⟩; have U10 := Lib.hid (U9.out.below hb10); have D10 := Lib.hid hb10; have U10b := Lib.hid (U10.out.box #[.int .i64 0, .int .i64 0, .string ⟨#[]⟩, .slice none 0 0] 25); obtain ⟨f0, f1, f2, f3⟩ := U10b.out.at4 (b := b11) (List.Mem.tail _ (List.Mem.head _)); skip; clear hb10)
              | (go_at_call 17; (with_reducible refine (HTO.out _ y _ _ (two_t2 U10b.out) fr_lt HY.out.2).mono ?_); rintro e w11 ⟨a11, c11, rfl, ht11, hb11⟩; have U11 := Lib.hid (U10b.out.below hb11); have T11 := Lib.hid (U10b.out.new hb11 ht11); have C11 := Lib.hid hb11; clear ht11 hb11)
              | (go_at_call 10; (with_reducible refine (HFY.out _ _ _ _ _ (two_less U11.out) T11.out).mono ?_); rintro e w12 ⟨rfl, hb12⟩; have U12 := Lib.hid (U11.out.below hb12); have D12 := Lib.hid hb12; clear hb12))
            have BE : Hid (Below w8.heap.size w8 w12) := bt (bt (ba (bt D9.out D10.out) _) C11.out) D12.out
            go_quiet (fail)
            go_wp2
            go_roundg (gk - 1)
            case measure => omega
            case rel => exact HEND.out _ (below_drewN (ba BE.out _) _)
        · have h1 : (e1 == 0) = false := by simpa using he
          clear he
          go_wp2
          go_roundg (gk - 1)
          case measure => omega
          case rel => exact HEND.out _ (Below.refl _ _)
    · have hb := HT.out.hb
      have hcs : ¬ i < la.length ∨ (i < la.length ∧ ¬ i < lb.length) ∨ (i < la.length ∧ i < lb.length ∧ ¬ i < 8) := by omega
      have HBE := Lib.hid hb
      clear hb hlt
      rcases hcs with h1 | ⟨h1, h2⟩ | ⟨h1, h2, h3⟩
      · have g1 : ¬ (i : Int) < (la.length : Int) := by omega
        go_wp2
        go_ret
        exact ⟨rfl, HBE.out⟩
      · have g1 : (i : Int) < (la.length : Int) := by omega
        have g2 : ¬ (i : Int) < (lb.length : Int) := by omega
        go_wp2
        go_ret
        exact ⟨rfl, HBE.out⟩
      · have g1 : (i : Int) < (la.length : Int) := by omega
        have g2 : (i : Int) < (lb.length : Int) := by omega
        have g3 : ¬ (i : Int) < 8 := by omega
        go_wp2
        go_ret
        exact ⟨rfl, HBE.out⟩
end Go.Proofs.YthchkekegkhanaaDoor
