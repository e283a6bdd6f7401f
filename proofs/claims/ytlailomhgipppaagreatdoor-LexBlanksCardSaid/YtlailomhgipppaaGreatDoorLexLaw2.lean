/- The laws of layer 10: from: a row of tokens as the document's. -/
import Derived.Test.YtlailomhgipppaaGreatDoorLexLaw1
namespace Go.Proofs.YtlailomhgipppaaGreatDoor
open Go.RowKit Lx
set_option linter.unusedVariables false
set_option linter.unusedSimpArgs false

theorem infoR : (Tryz.prog.info? 36).map (fun i => (i.zero, i.size, i.bytes)) = some (some (.agg #[.int .i64 0, .int .i64 0, .int .i64 0, .int .i64 0, .string ⟨#[]⟩]), 5, 48) := by kernel_rfl
/-- A row of the document's tokens that the call itself made. -/
def RRow (w : World) (N : Nat) (vo : Value) (ts : List Tok) : Prop := RowZ w 36 5 vo ts.length (tcells ts) ∧ ∀ k, vo.ownBlock = some k → N ≤ k
theorem RRow.below {w w' : World} {N : Nat} {vo : Value} {ts : List Tok} (h : RRow w N vo ts) (hb : Below w.heap.size w w') : RRow w' N vo ts := ⟨h.1.below hb (fun k hk => h.1.lt hk), h.2⟩
theorem RRow.form {w : World} {N : Nat} {vo : Value} {ts : List Tok} (h : RRow w N vo ts) : (ts = [] ∧ vo = .slice none 0 0) ∨ ∃ g cap, vo = .slice (some ⟨g, 0, none⟩) ts.length cap ∧ ts.length ≤ cap ∧ ∀ (j : Nat) v, (tcells ts)[j]? = some v → w.cell? ⟨g, j, none⟩ = some v := by
  rcases h.1.2 with ⟨h1, h2⟩ | ⟨g, cap, cur, h1, hb, hg, hn, rest⟩
  · exact .inl ⟨List.length_eq_zero_iff.1 h2, h1⟩
  · refine .inr ⟨g, cap, h1, hn, fun j v hj => ?_⟩
    have hr := h.1
    rw [h1] at hr
    have hl := (List.getElem?_eq_some_iff.1 hj).1
    exact (hr.cellAt j hl).trans hj
/-- 'append(out, t)' of one of the document's tokens that was just laid. -/
theorem step_appr {w : World} {ops : Array Oper} {o : Oper} {a : Act} {K : Act → World → Prop} {Q : Exit → Act → World → Prop} {E : Prop} (hgd : o.guard = none) (s x : Operand)
    (ho : o.op = .call { callee := .builtin .append, args := #[s, x], argTypes := #[31, 31] }) {v : Value} {n b : Nat} {xs : List Value} {t : Tok} (hs : a.eval s = v) (hr : RowZ w 36 5 v n xs) (hx : a.eval x = .slice (some ⟨b, 0, none⟩) 1 1)
    (hb : ∃ ty, w.heap[b]? = some (.cells #[.int .i64 t.kind, .int .i64 t.line, .int .i64 t.col, .int .i64 t.num, .string (bytes t.text)] ty (0, 0))) (h63 : n ≤ 1000000)
    (h : ∀ g cap w', RowZ w' 36 5 (.slice (some ⟨g, 0, none⟩) (n + 1) cap) (n + 1) (xs ++ tcells [t]) → w.grownBy w' v.ownBlock → (v.ownBlock = some g ∨ g = w.heap.size) → K (a.put o.dst (.slice (some ⟨g, 0, none⟩) (n + 1) cap)) w') : if Region.wanted o (yielded ops a.tmps) = true then Oper.wp Tryz.prog o a w K Q else E := by
  obtain ⟨ty, hb⟩ := hb
  obtain ⟨i0, hi, hz0, hz1, hz2⟩ := info_parts infoR
  refine step_append_lies w hgd s x 31 ho 0 36 i0 _ 5 48 Tryz.underlying31 hi hz0 hz1 hz2 rfl (by decide) v n xs hs hr ⟨b, 0, none⟩ 1 1 (tcells [t]) hx rfl (fun j u hj => ?_) (fun u hu => ?_) (by omega) (by unfold maxLen; omega) (by omega) (by omega) w.heap.size rfl (fun g cap w' a1 a2 a3 _ => h g cap w' a1 a2 a3)
  · exact World.news_of_block (cs := #[.int .i64 t.kind, .int .i64 t.line, .int .i64 t.col, .int .i64 t.num, .string (bytes t.text)]) (fr := (0, 0)) hb j u hj
  · simp only [tcells, List.mem_cons, List.not_mem_nil, or_false] at hu
    rcases hu with rfl | rfl | rfl | rfl | rfl <;> rfl
theorem RRow.pushed {W W1 W' : World} {N g cap : Nat} {t : Tok} {vo : Value} {ts : List Tok} (h : RRow W N vo ts) (hN : N ≤ W.heap.size) (hW : Below W.heap.size W W1) (hr : RowZ W' 36 5 (.slice (some ⟨g, 0, none⟩) (ts.length + 1) cap) (ts.length + 1) (tcells ts ++ tcells [t])) (hg : W1.grownBy W' vo.ownBlock) (hl : vo.ownBlock = some g ∨ g = W1.heap.size) :
    RRow W' N (.slice (some ⟨g, 0, none⟩) (ts.length + 1) cap) (ts ++ [t]) ∧ Below N W W' := by
  have hs := hW.size
  have c1 : Chg vo.ownBlock.toList W W' := ((Chg.refl vo.ownBlock.toList W).thenBelow hW).grown hg (fun k hk => .inl (by simp [hk]))
  refine ⟨⟨?_, fun k hk => ?_⟩, c1.below hN (fun k hk => h.2 k (by simpa using hk))⟩
  · rw [tcells_append, List.length_append]; exact hr
  · simp only [Value.ownBlock, Option.some.injEq] at hk
    subst hk
    rcases hl with e | e
    · exact h.2 g e
    · omega
def FromLoop (w : World) (ts : List Tok) (gk : Nat) (s3 s4 : Value) (wr : World) : Prop :=
  ∃ j : Nat, j + gk = ts.length ∧ s4 = .int .i64 (j : Int) ∧ RRow wr w.heap.size s3 (ts.take j) ∧ Below w.heap.size w wr
set_option maxRecDepth 100000 in
set_option maxHeartbeats 4000000 in
theorem from_any (w : World) (N : Nat) (vo : Value) (ts : List Tok) (h : TRow w N vo ts) (hl : ts.length ≤ 100000) :
    Calls Tryz.prog 9 #[vo] w fun e w' => ∃ v, e = .returned v ∧ RRow w' w.heap.size v ts ∧ Below w.heap.size w w' := by
  rcases h.form with ⟨rfl, rfl⟩ | ⟨g, cap, rfl, hc, hcells⟩
  · clear h
    go_enter Tryz.func9, Tryz.ntmps9
    go_wp2
    refine wp_loop_rounds 1 ?_
    rw [rounds_succ]
    go_wp2
    go_ret
    exact ⟨_, rfl, ⟨RowZ.nil _ _ _, fun k hk => by simp [Value.ownBlock] at hk⟩, Below.refl _ _⟩
  · have HC := Lib.hid hcells
    have HLT := Lib.hid (h.1.lt (k := g) rfl)
    have HL := Lib.hid hl
    have hl2 : (ts.length : Int) ≤ 100000 := by omega
    have HH := Lib.hid h
    clear h hcells hl hc
    go_enter Tryz.func9, Tryz.ntmps9
    go_wp2
    go_loopg [3, 4] ts.length (fun gk s3 s4 wr => FromLoop w ts gk s3 s4 wr)
    case atStart => exact ⟨0, by omega, rfl, ⟨RowZ.nil _ _ _, fun k hk => by simp [Value.ownBlock] at hk⟩, Below.refl _ _⟩
    case round =>
      obtain ⟨j, hj, rfl, hr, hb⟩ := hrel
      have HR := Lib.hid hr
      have HB := Lib.hid hb
      have HJ := Lib.hid hj
      by_cases hlt : j < ts.length
      · obtain ⟨t, ht⟩ : ∃ t, ts[j]? = some t := ⟨_, List.getElem?_eq_getElem hlt⟩
        obtain ⟨g1, g2, g3, g4, g5⟩ := tcells_get ht
        have hbw : ∀ W, Below wr.heap.size wr W → Below w.heap.size w W := fun W hW => hb.trans (hW.mono hb.size)
        have HS : Hid (∀ W, Below w.heap.size w W → W.cell? ⟨g, j * 5, none⟩ = some (.int .i64 t.kind) ∧ W.cell? ⟨g, j * 5 + 1, none⟩ = some (.int .i64 t.line) ∧ W.cell? ⟨g, j * 5 + 2, none⟩ = some (.int .i64 t.col) ∧ W.cell? ⟨g, j * 5 + 3, none⟩ = some (.int .i64 t.num) ∧ W.cell? ⟨g, j * 5 + 4, none⟩ = some (.string (bytes t.text))) := fun W hW =>
          ⟨(hW.cell (p := ⟨g, j * 5, none⟩) HLT.out).trans (HC.out _ _ g1), (hW.cell (p := ⟨g, j * 5 + 1, none⟩) HLT.out).trans (HC.out _ _ g2), (hW.cell (p := ⟨g, j * 5 + 2, none⟩) HLT.out).trans (HC.out _ _ g3), (hW.cell (p := ⟨g, j * 5 + 3, none⟩) HLT.out).trans (HC.out _ _ g4), (hW.cell (p := ⟨g, j * 5 + 4, none⟩) HLT.out).trans (HC.out _ _ g5)⟩
        have HBW := Lib.hid hbw
        have HTK : Hid (ts.take (j + 1) = ts.take j ++ [t]) := by show _ = _; rw [List.take_add_one, ht]; rfl
        have hjl : (ts.take j).length = j := by rw [List.length_take]; omega
        obtain ⟨ao, cp, rfl⟩ : ∃ ao cp, u3 = .slice ao j cp := by
          rcases hr.form with ⟨h1, h2⟩ | ⟨g', cap', h1, _⟩
          · rw [h1] at hjl; simp at hjl; exact ⟨none, 0, by rw [h2, ← hjl]⟩
          · exact ⟨_, cap', by rw [h1, hjl]⟩
        have HJL := Lib.hid hjl
        have k0 : (j : Int) < (ts.length : Int) := by omega
        have k1 : (0 : Int) ≤ (j : Int) := by omega
        clear hr hb hj hlt ht g1 g2 g3 g4 g5 hbw hjl
        go_wp2
        refine wp_region_lastL (S := fun w' => w'.cell? ⟨g, j * 5, none⟩ = some (.int .i64 t.kind) ∧ w'.cell? ⟨g, j * 5 + 1, none⟩ = some (.int .i64 t.line) ∧ w'.cell? ⟨g, j * 5 + 2, none⟩ = some (.int .i64 t.col) ∧ w'.cell? ⟨g, j * 5 + 3, none⟩ = some (.int .i64 t.num) ∧ w'.cell? ⟨g, j * 5 + 4, none⟩ = some (.string (bytes t.text))) (by kernel_rfl) (by simp only [butLast]; rfl) (by simp only [lastOf]; rfl) (by kernel_rfl) (by kernel_rfl) ?_ (fun hHeld => ?_)
        focus exact HS.out _ (HBW.out _ (Below.refl _ _).drew)
        try simp only [List.size_toArray, List.length_cons, List.length_nil]
        refine wpAnyH_take (i := 0) (v := ?_) rfl (by kernel_rfl) (by kernel_rfl) (by kernel_rfl) (fun _ _ _ h => h) (Or.inl ⟨by rfl, ?_⟩) (by assumption) ?_
        rotate_left
        focus (intro w hSw; (try dsimp only at hSw); go_simp; try with_reducible rfl)
        try simp only [Act.put, List.setIfInBounds_toArray, List.set_cons_zero, List.set_cons_succ, Nat.zero_add]
        refine wpAnyH_take (i := 1) (v := ?_) rfl (by kernel_rfl) (by kernel_rfl) (by kernel_rfl) (fun _ _ _ h => h) (Or.inl ⟨by rfl, ?_⟩) (by assumption) ?_
        rotate_left
        focus (intro w hSw; (try dsimp only at hSw); go_simp; try with_reducible rfl)
        try simp only [Act.put, List.setIfInBounds_toArray, List.set_cons_zero, List.set_cons_succ, Nat.zero_add]
        refine wpAnyH_take (i := 2) (v := ?_) rfl (by kernel_rfl) (by kernel_rfl) (by kernel_rfl) (fun _ _ _ h => h) (Or.inl ⟨by rfl, ?_⟩) (by assumption) ?_
        rotate_left
        focus (intro w hSw; (try dsimp only at hSw); go_simp; try with_reducible rfl)
        try simp only [Act.put, List.setIfInBounds_toArray, List.set_cons_zero, List.set_cons_succ, Nat.zero_add]
        refine wpAnyH_take (i := 3) (v := ?_) rfl (by kernel_rfl) (by kernel_rfl) (by kernel_rfl) (fun _ _ _ h => h) (Or.inl ⟨by rfl, ?_⟩) (by assumption) ?_
        rotate_left
        focus (intro w hSw; (try dsimp only at hSw); go_simp; try with_reducible rfl)
        try simp only [Act.put, List.setIfInBounds_toArray, List.set_cons_zero, List.set_cons_succ, Nat.zero_add]
        refine wpAnyH_take (i := 4) (v := ?_) rfl (by kernel_rfl) (by kernel_rfl) (by kernel_rfl) (fun _ _ _ h => h) (Or.inl ⟨by rfl, ?_⟩) (by assumption) ?_
        rotate_left
        focus (intro w hSw; (try dsimp only at hSw); go_simp; try with_reducible rfl)
        try simp only [Act.put, List.setIfInBounds_toArray, List.set_cons_zero, List.set_cons_succ, Nat.zero_add]
        refine wpAnyH_take (i := 5) (v := ?_) rfl (by kernel_rfl) (by kernel_rfl) (by kernel_rfl) (fun _ _ _ h => h) (Or.inl ⟨by rfl, ?_⟩) (by assumption) ?_
        rotate_left
        focus (intro w hSw; (try dsimp only at hSw); go_simp; try with_reducible rfl)
        try simp only [Act.put, List.setIfInBounds_toArray, List.set_cons_zero, List.set_cons_succ, Nat.zero_add]
        refine wpAnyH_take (i := 6) (v := ?_) rfl (by kernel_rfl) (by kernel_rfl) (by kernel_rfl) (fun _ _ _ h => h) (Or.inl ⟨by rfl, ?_⟩) (by assumption) ?_
        rotate_left
        focus (intro w hSw; (try dsimp only at hSw); go_simp; try with_reducible rfl)
        try simp only [Act.put, List.setIfInBounds_toArray, List.set_cons_zero, List.set_cons_succ, Nat.zero_add]
        refine wpAnyH_take (i := 7) (v := ?_) rfl (by kernel_rfl) (by kernel_rfl) (by kernel_rfl) (fun _ _ _ h => h) (Or.inl ⟨by rfl, ?_⟩) (by assumption) ?_
        rotate_left
        focus (intro w hSw; (try dsimp only at hSw); go_simp; try with_reducible rfl)
        try simp only [Act.put, List.setIfInBounds_toArray, List.set_cons_zero, List.set_cons_succ, Nat.zero_add]
        refine wpAnyH_take (i := 8) (v := ?_) rfl (by kernel_rfl) (by kernel_rfl) (by kernel_rfl) (fun _ _ _ h => h) (Or.inl ⟨by rfl, ?_⟩) (by assumption) ?_
        rotate_left
        focus (intro w hSw; (try dsimp only at hSw); go_simp; try with_reducible rfl)
        try simp only [Act.put, List.setIfInBounds_toArray, List.set_cons_zero, List.set_cons_succ, Nat.zero_add]
        refine wpAnyH_take (i := 9) (v := ?_) rfl (by kernel_rfl) (by kernel_rfl) (by kernel_rfl) (fun _ _ _ h => h) (Or.inl ⟨by rfl, ?_⟩) (by assumption) ?_
        rotate_left
        focus (intro w hSw; (try dsimp only at hSw); go_simp; try with_reducible rfl)
        try simp only [Act.put, List.setIfInBounds_toArray, List.set_cons_zero, List.set_cons_succ, Nat.zero_add]
        refine wpAnyH_take (i := 10) (v := ?_) rfl (by kernel_rfl) (by kernel_rfl) (by kernel_rfl) (fun _ _ _ h => h) (Or.inl ⟨by rfl, ?_⟩) (by assumption) ?_
        rotate_left
        focus (intro w hSw; (try dsimp only at hSw); go_simp; try with_reducible rfl)
        try simp only [Act.put, List.setIfInBounds_toArray, List.set_cons_zero, List.set_cons_succ, Nat.zero_add]
        refine wpAnyH_take (i := 11) (v := ?_) rfl (by kernel_rfl) (by kernel_rfl) (by kernel_rfl) (fun _ _ _ h => h) (Or.inl ⟨by rfl, ?_⟩) (by assumption) ?_
        rotate_left
        focus (intro w hSw; (try dsimp only at hSw); go_simp; try with_reducible rfl)
        try simp only [Act.put, List.setIfInBounds_toArray, List.set_cons_zero, List.set_cons_succ, Nat.zero_add]
        refine wpAnyH_take (i := 12) (v := ?_) rfl (by kernel_rfl) (by kernel_rfl) (by kernel_rfl) (fun _ _ _ h => h) (Or.inl ⟨by rfl, ?_⟩) (by assumption) ?_
        rotate_left
        focus (intro w hSw; (try dsimp only at hSw); go_simp; try with_reducible rfl)
        try simp only [Act.put, List.setIfInBounds_toArray, List.set_cons_zero, List.set_cons_succ, Nat.zero_add]
        refine wpAnyH_take (i := 13) (v := ?_) rfl (by kernel_rfl) (by kernel_rfl) (by kernel_rfl) (fun _ _ _ h => h) (Or.inl ⟨by rfl, ?_⟩) (by assumption) ?_
        rotate_left
        focus (intro w hSw; (try dsimp only at hSw); go_simp; try with_reducible rfl)
        try simp only [Act.put, List.setIfInBounds_toArray, List.set_cons_zero, List.set_cons_succ, Nat.zero_add]
        refine wpAnyH_take (i := 14) (v := ?_) rfl (by kernel_rfl) (by kernel_rfl) (by kernel_rfl) (fun _ _ _ h => h) (Or.inl ⟨by rfl, ?_⟩) (by assumption) ?_
        rotate_left
        focus (intro w hSw; (try dsimp only at hSw); go_simp; try with_reducible rfl)
        try simp only [Act.put, List.setIfInBounds_toArray, List.set_cons_zero, List.set_cons_succ, Nat.zero_add]
        refine wpAnyH_take (i := 15) (v := ?_) rfl (by kernel_rfl) (by kernel_rfl) (by kernel_rfl) (fun _ _ _ h => h) (Or.inl ⟨by rfl, ?_⟩) (by assumption) ?_
        rotate_left
        focus (intro w hSw; (try dsimp only at hSw); go_simp; try with_reducible rfl)
        try simp only [Act.put, List.setIfInBounds_toArray, List.set_cons_zero, List.set_cons_succ, Nat.zero_add]
        refine wpAnyH_take (i := 16) (v := ?_) rfl (by kernel_rfl) (by kernel_rfl) (by kernel_rfl) (fun _ _ _ h => h) (Or.inl ⟨by rfl, ?_⟩) (by assumption) ?_
        rotate_left
        focus (intro w hSw; (try dsimp only at hSw); go_simp; try with_reducible rfl)
        try simp only [Act.put, List.setIfInBounds_toArray, List.set_cons_zero, List.set_cons_succ, Nat.zero_add]
        refine wpAnyH_take (i := 17) (v := ?_) rfl (by kernel_rfl) (by kernel_rfl) (by kernel_rfl) (fun _ _ _ h => h) (Or.inl ⟨by rfl, ?_⟩) (by assumption) ?_
        rotate_left
        focus (intro w hSw; (try dsimp only at hSw); go_simp; try with_reducible rfl)
        try simp only [Act.put, List.setIfInBounds_toArray, List.set_cons_zero, List.set_cons_succ, Nat.zero_add]
        refine wpAnyH_take (i := 18) (v := ?_) rfl (by kernel_rfl) (by kernel_rfl) (by kernel_rfl) (fun _ _ _ h => h) (Or.inl ⟨by rfl, ?_⟩) (by assumption) ?_
        rotate_left
        focus (intro w hSw; (try dsimp only at hSw); go_simp; try with_reducible rfl)
        try simp only [Act.put, List.setIfInBounds_toArray, List.set_cons_zero, List.set_cons_succ, Nat.zero_add]
        refine wpAnyH_take (i := 19) (v := ?_) rfl (by kernel_rfl) (by kernel_rfl) (by kernel_rfl) (fun _ _ _ h => h) (Or.inl ⟨by rfl, ?_⟩) (by assumption) ?_
        rotate_left
        focus (intro w hSw; (try dsimp only at hSw); go_simp; try with_reducible rfl)
        try simp only [Act.put, List.setIfInBounds_toArray, List.set_cons_zero, List.set_cons_succ, Nat.zero_add]
        refine wpAnyH_take (i := 20) (v := ?_) rfl (by kernel_rfl) (by kernel_rfl) (by kernel_rfl) (fun _ _ _ h => h) (Or.inl ⟨by rfl, ?_⟩) (by assumption) ?_
        rotate_left
        focus (intro w hSw; (try dsimp only at hSw); go_simp; try with_reducible rfl)
        try simp only [Act.put, List.setIfInBounds_toArray, List.set_cons_zero, List.set_cons_succ, Nat.zero_add]
        refine wpAnyH_take (i := 21) (v := ?_) rfl (by kernel_rfl) (by kernel_rfl) (by kernel_rfl) (fun _ _ _ h => h) (Or.inl ⟨by rfl, ?_⟩) (by assumption) ?_
        rotate_left
        focus (intro w hSw; (try dsimp only at hSw); go_simp; try with_reducible rfl)
        try simp only [Act.put, List.setIfInBounds_toArray, List.set_cons_zero, List.set_cons_succ, Nat.zero_add]
        refine wpAnyH_ready (rs := [22]) (by kernel_rfl) (by simp) ?_
        refine AllReadyH.cons rfl (fun K hK => ?_) AllReadyH.nil
        go_simp
        refine hK.out _ _ (HS.out _ (HBW.out _ ((Below.refl _ _).alloc (Nat.le_refl _) _).drew)) (fun hHeld => ?_)
        clear hK K
        try simp only [Act.put, List.setIfInBounds_toArray, List.set_cons_zero, List.set_cons_succ, Nat.zero_add]
        refine wpAnyH_ready (rs := [23]) (by kernel_rfl) (by simp) ?_
        refine AllReadyH.cons rfl (fun K hK => ?_) AllReadyH.nil
        have hrx := (HR.out.below (((Below.refl wr.heap.size wr).alloc (Nat.le_refl _) (.cells #[.int .i64 t.kind, .int .i64 t.line, .int .i64 t.col, .int .i64 t.num, .string (bytes t.text)] 36)).drew)).1
        rw [HJL.out] at hrx
        refine step_appr (t := t) (by rfl) _ _ (by rfl) (by rfl) hrx (by rfl) ⟨_, heap_alloc_new wr _⟩ (by have := HL.out; have := HJ.out; omega) ?_
        intro g40 cap40 w40 hr40 hg40 hl40
        have DN := Lib.hid (HR.out.pushed HB.out.size (((Below.refl wr.heap.size wr).alloc (Nat.le_refl _) (.cells #[.int .i64 t.kind, .int .i64 t.line, .int .i64 t.col, .int .i64 t.num, .string (bytes t.text)] 36)).drew) (by rw [HJL.out]; exact hr40) hg40 hl40)
        rw [HJL.out] at DN
        have hs40 := HS.out _ (HB.out.trans DN.out.2)
        clear hr40 hg40 hl40 hrx
        refine hK.out _ _ hs40 (fun hHeld => ?_)
        clear hK K
        try simp only [Act.put, List.setIfInBounds_toArray, List.set_cons_zero, List.set_cons_succ, Nat.zero_add]
        refine wpAnyH_done (by kernel_rfl) ?_ _
        show Oper.wp _ _ _ _ _ _
        go_simp
        go_wp2
        go_roundg (gk - 1)
        case measure => have := HJ.out; omega
        case rel => exact ⟨j + 1, by have := HJ.out; omega, by simp, by rw [HTK.out]; exact DN.out.1, HB.out.trans (DN.out.2.mono (Nat.le_refl _))⟩
      · have hz : j = ts.length := by omega
        have HZ := Lib.hid hz
        have k0 : ¬ (j : Int) < (ts.length : Int) := by omega
        clear hr hb hj hlt hz
        go_wp2
        go_ret
        exact ⟨_, rfl, by have h := HR.out; rwa [HZ.out, List.take_length] at h, HB.out⟩
end Go.Proofs.YtlailomhgipppaaGreatDoor
