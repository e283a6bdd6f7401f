/- The walk of LexJoins. -/
import Derived.Test.YtlailomhgipppaaGreatDoorLexLaw3
import Derived.Test.YtlailomhgipppaaGreatDoorLexJoinP
import Derived.Laws.Concat
namespace Go.Proofs.YtlailomhgipppaaGreatDoor
open Go.RowKit Lx
set_option linter.unusedVariables false
set_option linter.unusedSimpArgs false

theorem scanF_len : ∀ (f : Nat) (l : List UInt8) (q : Pos) (o : List Tok) {ts}, scanF f l q o = .ok ts → ts.length ≤ o.length + l.length
  | _, [], _, _, _, h => by unfold scanF at h; cases h; omega
  | 0, _ :: _, _, _, _, h => by unfold scanF at h; cases h; omega
  | f + 1, c :: r, q, o, ts, h => by
    unfold scanF at h
    cases hs : Lx.stepT c r q with
    | error e => rw [hs] at h; cases h
    | ok x =>
      obtain ⟨r', q', t⟩ := x
      rw [hs] at h
      have := scanF_len f _ _ _ h
      have h1 := stepT_len hs
      have h2 := stepT_one hs
      rw [List.length_append] at this
      rw [List.length_cons]
      omega
theorem scan_some {src : ByteArray} {w : World} (hs : src.size ≤ 65536) (hF : FTab w) (hE : ErrVar w) :
    Calls Tryz.prog 7 #[.string src] w fun e w' => ∃ (v0 : Value) (p1 p2 e3 : Int), e = .returned (.tuple #[v0, .agg #[.int .i64 p1, .int .i64 p2], .int .i64 e3]) ∧ Below w.heap.size w w' :=
  (scan_any src w hs hF hE).mono fun e w' h2 => by
    obtain ⟨hb, h3⟩ := h2
    cases h : Lx.scanT src.data.toList with
    | error x => rw [h] at h3; exact ⟨_, _, _, _, h3, hb⟩
    | ok ts => rw [h] at h3; obtain ⟨vo, h4, _⟩ := h3; exact ⟨_, _, _, _, h4, hb⟩
/-- 'append(want, l...)' of a row of the document's tokens. -/
theorem wpList_apprs (w : World) {ops : Array Oper} {rest : List Oper} {o : Oper} {a : Act} {Q : Exit → Act → World → Prop} (hgd : o.guard = none) (s x : Operand)
    (ho : o.op = .call { callee := .builtin .append, args := #[s, x], argTypes := #[31, 31] }) {N g cp : Nat} {v : Value} {ts us : List Tok} (hs : a.eval s = v) (hr : RRow w N v ts) (hN : N ≤ w.heap.size) (hx : a.eval x = .slice (some ⟨g, 0, none⟩) us.length cp)
    (hc : ∀ (j : Nat) u, (tcells us)[j]? = some u → w.cell? ⟨g, j, none⟩ = some u) (hm : 0 < us.length) (h63 : ts.length + us.length ≤ 1000000)
    (h : ∀ v' w', RRow w' N v' (ts ++ us) → Below N w w' → wpList Tryz.prog ops Q rest (a.put o.dst v') w') : wpList Tryz.prog ops Q (o :: rest) a w := by
  refine wpList_appz w hgd s x 31 ho 36 _ 5 48 Tryz.underlying31 infoR rfl (by omega) v ts.length (tcells ts) hs hr.1 ⟨g, 0, none⟩ us.length cp (tcells us) hx hm (tcells_length us) (fun j u hj => ?_) (fun u hu => ?_) (by omega) (by omega) ?_
  · rw [Go.WideShapes.add_plain, Nat.zero_add]; exact hc j u hj
  · obtain ⟨j, hj⟩ := List.mem_iff_getElem?.1 hu
    clear hc h hx
    induction us generalizing j with
    | nil => cases hu
    | cons t l ih =>
      simp only [tcells, List.mem_cons] at hu
      rcases hu with rfl | rfl | rfl | rfl | rfl | hu
      · rfl
      · rfl
      · rfl
      · rfl
      · rfl
      · by_cases hl : l = []
        · subst hl; cases hu
        · obtain ⟨j', hj'⟩ := List.mem_iff_getElem?.1 hu
          exact ih (List.length_pos_iff.2 hl) (by rw [List.length_cons] at h63; omega) hu j' hj'
  · intro g' cap' w' h1 h2 h3
    have c1 : Chg v.ownBlock.toList w w' := (Chg.refl _ w).grown h2 (fun k hk => .inl (by simp [hk]))
    refine h _ w' ⟨?_, fun k hk => ?_⟩ (c1.below hN (fun k hk => hr.2 k (by simpa using hk)))
    · rw [tcells_append, List.length_append]; exact h1
    · simp only [Value.ownBlock, Option.some.injEq] at hk
      subst hk
      rcases h3 with e | e
      · exact hr.2 _ e
      · omega
theorem run_empty (w : World) (ty : TypeId) (a : Option Addr) (cap : Nat) : (Builtin.append_ #[31, 31] ty #[.slice none 0 0, .slice a 0 cap]).run Tryz.prog w = .ok (.slice none 0 0) w := by
  unfold Builtin.append_
  cases a <;> simp [go_sem, Tryz.underlying31]
/-- 'append(want, l...)' onto none. -/
theorem wpList_appr0 (w : World) {ops : Array Oper} {rest : List Oper} {o : Oper} {a : Act} {Q : Exit → Act → World → Prop} (hgd : o.guard = none) (s x : Operand)
    (ho : o.op = .call { callee := .builtin .append, args := #[s, x], argTypes := #[31, 31] }) {N M : Nat} {v : Value} {ts : List Tok} (hs : a.eval s = .slice none 0 0) (hN : N ≤ w.heap.size) (hx : a.eval x = v) (hr : RRow w M v ts) (h63 : ts.length ≤ 1000000)
    (h : ∀ v' w', RRow w' N v' ts → Below N w w' → Below w.heap.size w w' → wpList Tryz.prog ops Q rest (a.put o.dst v') w') : wpList Tryz.prog ops Q (o :: rest) a w := by
  have hnil : ∀ K, RRow w K (.slice none 0 0) [] := fun K => ⟨RowZ.nil _ _ _, fun k hk => by simp [Value.ownBlock] at hk⟩
  by_cases hts : ts = []
  · subst hts
    obtain ⟨a0, cap0, hv, _⟩ := hr.form2
    refine wpList_plain hgd fun K hK => ?_
    have hrun := run_empty w o.type a0 cap0
    rw [List.length_nil] at hv
    rw [← hv, ← hx] at hrun
    unfold Oper.wp execOp
    simp only [ho, resolve, invoke, builtin, Sem.run_bind, Sem.run_pure, Result.andThen_ok, List.map_toArray, List.map_cons, List.map_nil, hs, hrun]
    exact hK _ _ (h _ w (hnil N) (Below.refl _ _) (Below.refl _ _))
  · rcases hr.form with ⟨h1, _⟩ | ⟨g, cap, hv, _, hc⟩
    · exact absurd h1 hts
    · refine wpList_apprs w hgd s x ho hs (hnil w.heap.size) (Nat.le_refl _) (by rw [hx, hv]) hc (List.length_pos_iff.2 hts) (by simp; omega) (fun v' w' h1 h2 => h v' w' ⟨by simpa using h1.1, fun k hk => Nat.le_trans hN (h1.2 k hk)⟩ (h2.mono hN) h2)
def WantLoop (N : Nat) (w4 : World) (ts us : List Tok) (k : Nat) (gk : Nat) (s16 s17 : Value) (wr : World) : Prop :=
  ∃ j : Nat, j + gk = us.length ∧ s17 = .int .i64 (j : Int) ∧ RRow wr N s16 (ts ++ (us.take j).map (shT k)) ∧ Below w4.heap.size w4 wr
theorem new5 (w : World) (o : Obj) (x0 x1 x2 x3 x4 : Value) (T : TypeId) : ∀ (j : Nat) u, [x0, x1, x2, x3, x4][j]? = some u → ((w.alloc o).alloc (.cells #[x0, x1, x2, x3, x4] T)).cell? ⟨w.heap.size + 1, j, none⟩ = some u := fun j u hj => by
  have h := heap_alloc_new (w.alloc o) (.cells #[x0, x1, x2, x3, x4] T)
  rw [World.size_alloc] at h
  have := World.news_of_block (cs := #[x0, x1, x2, x3, x4]) (fr := (0, 0)) h j u hj
  rwa [Go.WideShapes.add_plain, Nat.zero_add] at this
def LineLoop (w : World) (a : ByteArray) (gk : Nat) (s14 s15 : Value) (wr : World) : Prop :=
  ∃ j : Nat, j + gk = a.size ∧ s15 = .int .i64 (j : Int) ∧ s14 = .int .i64 ((1 + (a.data.toList.take j).count 10 : Nat) : Int) ∧ wr = w
set_option maxRecDepth 100000 in
set_option maxHeartbeats 8000000 in
theorem lexJoins_walk (a b : ByteArray) (w : World) (hF : FTab w) (hE : ErrVar w) (ha : a.size ≤ maxLen) (hb : b.size ≤ maxLen) :
    Calls Tryz.prog 5 #[.string a, .string b] w fun e w' => e = .returned (.bool true) ∧ Below w.heap.size w w' := by
  have HLX : Hid (∀ W, Below w.heap.size w W → Calls Tryz.prog 6 #[] W fun e w' => e = .returned (.bool true) ∧ Below W.heap.size W w') := fun W hW => lexes_any W (hF.below hW) (hE.below hW)
  by_cases hbig : 2000 < a.size ∨ 2000 < b.size
  · by_cases h1 : 2000 < a.size
    · have d1 : (2000 : Int) < (a.size : Int) := by omega
      clear hbig h1 ha hb
      go_enter Tryz.func5, Tryz.ntmps5
      go_wp2_with (go_at_call 6; refine (HLX.out _ (Below.refl _ _)).mono ?_; rintro e w1 ⟨rfl, hb⟩; have HB1 := Lib.hid hb; clear hb; dsimp only)
      go_ret
      exact ⟨rfl, HB1.out⟩
    · have d1 : ¬ (2000 : Int) < (a.size : Int) := by omega
      have d2 : (2000 : Int) < (b.size : Int) := by omega
      clear hbig h1 ha hb
      go_enter Tryz.func5, Tryz.ntmps5
      go_wp2_with (go_at_call 6; refine (HLX.out _ (Below.refl _ _)).mono ?_; rintro e w1 ⟨rfl, hb⟩; have HB1 := Lib.hid hb; clear hb; dsimp only)
      go_ret
      exact ⟨rfl, HB1.out⟩
  · have d1 : ¬ (2000 : Int) < (a.size : Int) := by omega
    have d2 : ¬ (2000 : Int) < (b.size : Int) := by omega
    have hsa : a.size ≤ 2000 := by omega
    have hsb : b.size ≤ 2000 := by omega
    have hcat : (a ++ ⟨#[10]⟩ ++ b).data.toList = a.data.toList ++ 10 :: b.data.toList := by simp
    have hcs : (a ++ ⟨#[10]⟩ ++ b).size ≤ 4001 := by rw [Lib.size_eq, hcat, List.length_append, List.length_cons, ← Lib.size_eq, ← Lib.size_eq]; omega
    have HSB : Hid (∀ W, Below w.heap.size w W → Calls Tryz.prog 7 #[.string b] W (ScanEnd W (Lx.scanT b.data.toList))) := fun W hW => scan_any b W (by omega) (hF.below hW) (hE.below hW)
    have HSC : Hid (∀ W, Below w.heap.size w W → Calls Tryz.prog 7 #[.string (a ++ ⟨#[10]⟩ ++ b)] W (ScanEnd W (Lx.scanT (a.data.toList ++ 10 :: b.data.toList)))) := fun W hW => by
      have h := scan_any (a ++ ⟨#[10]⟩ ++ b) W (by omega) (hF.below hW) (hE.below hW)
      rwa [hcat] at h
    have hla := Lib.size_eq a
    have hlb := Lib.size_eq b
    cases hA : Lx.scanT a.data.toList with
    | error x =>
      have HSA := Lib.hid (scan_bad (src := a) (by omega) hF hE hA)
      have HS2 : Hid (∀ W, Below w.heap.size w W → Calls Tryz.prog 7 #[.string b] W fun e w' => ∃ (v0 : Value) (p1 p2 e3 : Int), e = .returned (.tuple #[v0, .agg #[.int .i64 p1, .int .i64 p2], .int .i64 e3]) ∧ Below W.heap.size W w') := fun W hW => scan_some (by omega) (hF.below hW) (hE.below hW)
      have HS3 : Hid (∀ W, Below w.heap.size w W → Calls Tryz.prog 7 #[.string (a ++ ⟨#[10]⟩ ++ b)] W fun e w' => ∃ (v0 : Value) (p1 p2 e3 : Int), e = .returned (.tuple #[v0, .agg #[.int .i64 p1, .int .i64 p2], .int .i64 e3]) ∧ Below W.heap.size W w') := fun W hW => scan_some (by omega) (hF.below hW) (hE.below hW)
      clear hA hF hE ha hb hbig hcat hcs hsb hsa hla hlb HSB HSC
      go_enter Tryz.func5, Tryz.ntmps5
      go_wp2_with (first
        | (go_at_call 7; (with_reducible refine HSA.out.mono ?_); rintro e w1 ⟨rfl, hb⟩; have HB1 := Lib.hid (hb.alloc hb.size (.cells #[.int .i64 x.1, .int .i64 x.2] 26)); clear hb HSA; dsimp only)
        | (go_at_call 7; (with_reducible refine (HS2.out _ HB1.out).mono ?_); rintro e w2 ⟨v0, p1, p2, e3, rfl, hb⟩; have HB2 := Lib.hid ((HB1.out.trans (hb.mono HB1.out.size)).alloc (HB1.out.trans (hb.mono HB1.out.size)).size (.cells #[.int .i64 p1, .int .i64 p2] 26)); clear hb HS2 HB1; dsimp only)
        | (go_at_call 7; (with_reducible refine (HS3.out _ HB2.out).mono ?_); rintro e w3 ⟨v1, p3, p4, e5, rfl, hb⟩; have HB3 := Lib.hid ((HB2.out.trans (hb.mono HB2.out.size)).alloc (HB2.out.trans (hb.mono HB2.out.size)).size (.cells #[.int .i64 p3, .int .i64 p4] 26)); clear hb HS3 HB2; dsimp only)
        | (go_at_call 6; (with_reducible refine (HLX.out _ HB3.out).mono ?_); rintro e w4 ⟨rfl, hb⟩; have HB4 := Lib.hid (HB3.out.trans (hb.mono HB3.out.size)); clear hb HB3; dsimp only)
        | (go_at_call 6; (with_reducible refine (HLX.out _ HB4.out).mono ?_); rintro e w5 ⟨rfl, hb⟩; have HB5 := Lib.hid (HB4.out.trans (hb.mono HB4.out.size)); clear hb HB4; dsimp only))
      go_ret
      exact ⟨rfl, HB5.out⟩
    | ok ts =>
      have HSA := Lib.hid (scan_ok (src := a) (by omega) hF hE hA)
      have hjoin := scan_join (b := b.data.toList) hA
      have htl : ts.length ≤ 2000 := by
        have := scanF_len _ _ _ _ hA
        simp only [List.length_nil] at this
        omega
      cases hB : Lx.scanT b.data.toList with
      | error x =>
        rw [hB] at hjoin HSB
        rw [hjoin] at HSC
        have hx1 : x.1 ≤ 2001 := by have := scanF_err _ _ _ _ hB; simp only at this; omega
        clear hjoin hA hB hF hE ha hb hbig hcat hcs hsb
        have hk : (a.data.toList.count 10 : Int) ≤ 2000 := by
          have := List.count_le_length (a := 10) (l := a.data.toList)
          omega
        have hk2 : (1 + a.data.toList.count 10 : Nat) ≤ 2001 := by omega
        obtain ⟨kn, hkn⟩ : ∃ kn, kn = 1 + a.data.toList.count 10 := ⟨_, rfl⟩
        rw [← hkn] at HSC hk2
        have HKN := Lib.hid hkn
        clear hkn hk hla hlb htl
        unfold ScanEnd shP posV at HSC
        unfold ScanEnd posV at HSB
        simp only at HSB HSC
        go_enter Tryz.func5, Tryz.ntmps5
        go_wp2_with (first
          | (go_at_call 7; (with_reducible refine HSA.out.mono ?_); rintro e w1 ⟨vo, rfl, hr, hb⟩; have HR1 := Lib.hid hr; have HB1 := Lib.hid (hb.alloc hb.size (.cells #[.int .i64 0, .int .i64 0] 26)); clear hr hb HSA; dsimp only)
          | (go_at_call 7; (with_reducible refine (HSB.out _ HB1.out).mono ?_); rintro e w2 ⟨hb, rfl⟩; have HB2 := Lib.hid ((HB1.out.trans (hb.mono HB1.out.size)).alloc (HB1.out.trans (hb.mono HB1.out.size)).size (.cells #[.int .i64 x.1, .int .i64 x.2] 26)); clear hb HSB; dsimp only)
          | (go_at_call 7; (with_reducible refine (HSC.out _ HB2.out).mono ?_); rintro e w3 ⟨hb, rfl⟩; have HB3 := Lib.hid hb; clear hb HSC; dsimp only)
          | (go_at_call 6; refine (HLX.out _ ((HB2.out.trans (HB3.out.mono HB2.out.size)).alloc (HB2.out.trans (HB3.out.mono HB2.out.size)).size _)).mono ?_; rintro e w4 ⟨rfl, hb⟩; have HB4 := Lib.hid hb; clear hb; dsimp only))
        have hb12 : w4.heap[w3.heap.size]? = some (.cells #[.int .i64 ((x.1 + kn : Nat) : Int), .int .i64 x.2] 26 (0, 0)) := (HB4.out.block _ (by simp)).trans (heap_alloc_new w3 _)
        have hs3 := HB3.out.size
        have hb9 : w4.heap[w2.heap.size]? = some (.cells #[.int .i64 x.1, .int .i64 x.2] 26 (0, 0)) := (HB4.out.block _ (by simp at hs3 ⊢; omega)).trans ((heap_alloc_old _ _ (by simp at hs3; omega)).trans ((HB3.out.block _ (by simp)).trans (heap_alloc_new w2 _)))
        obtain ⟨m0, m1⟩ := box2 hb12
        obtain ⟨m2, m3⟩ := box2 hb9
        have HB5 := Lib.hid ((HB2.out.trans (HB3.out.mono HB2.out.size)).alloc (HB2.out.trans (HB3.out.mono HB2.out.size)).size _ |>.trans (HB4.out.mono (by have := HB2.out.size; have := HB3.out.size; simp; omega)))
        have hx2 : (x.1 : Int) ≤ 2001 := by omega
        have hk3 : (kn : Int) ≤ 2001 := by omega
        clear hb12 hb9 hs3 HB1 HB2 HB3 HB4 HR1
        go_loopg [14, 15] a.size (fun gk s14 s15 wr => LineLoop w4 a gk s14 s15 wr)
        case atStart => exact ⟨0, by omega, rfl, by simp, rfl⟩
        case round =>
          obtain ⟨j, hj, rfl, rfl, rfl⟩ := hrel
          have HJ := Lib.hid hj
          by_cases hlt : j < a.size
          · obtain ⟨c, hc⟩ : ∃ c, a[j]'hlt = c := ⟨_, rfl⟩
            have hcl : a.data.toList[j]? = some c := by
              have := Lib.getD_at a j hlt
              rw [hc] at this
              rw [List.getElem?_eq_getElem (by rw [← Lib.size_eq]; exact hlt)] 
              rw [List.getD_eq_getElem?_getD, List.getElem?_eq_getElem (by rw [← Lib.size_eq]; exact hlt)] at this
              exact congrArg some this.symm
            have htk : a.data.toList.take (j + 1) = a.data.toList.take j ++ [c] := by rw [List.take_add_one, hcl]; rfl
            have HTK := Lib.hid htk
            have hcn : (a.data.toList.take j).count 10 ≤ 2000 := by
              have h1 := List.count_le_length (a := (10 : UInt8)) (l := a.data.toList.take j)
              rw [List.length_take, ← Lib.size_eq] at h1
              omega
            have k0 : (j : Int) < (a.size : Int) := by omega
            have k1 : (0 : Int) ≤ (j : Int) := by omega
            obtain ⟨cn, hcn2⟩ : ∃ cn : Nat, cn = 1 + (a.data.toList.take j).count 10 := ⟨_, rfl⟩
            rw [← hcn2]
            have HCN := Lib.hid hcn2
            have k2 : (cn : Int) ≤ 2001 := by omega
            clear hj hcl htk hcn hcn2
            by_cases h10 : c = 10
            · subst h10
              go_wp2
              go_roundg (gk - 1)
              case measure => have := HJ.out; omega
              case rel => exact ⟨j + 1, by have := HJ.out; omega, by simp, by rw [HTK.out, List.count_append, HCN.out]; simp; omega, rfl⟩
            · have q1 : ((c.toNat : Int) == 10) = false := ne_lit h10 (by rfl)
              go_wp2
              go_roundg (gk - 1)
              case measure => have := HJ.out; omega
              case rel => exact ⟨j + 1, by have := HJ.out; omega, by simp, by rw [HTK.out, List.count_append, HCN.out]; simp [h10], rfl⟩
          · have k0 : ¬ (j : Int) < (a.size : Int) := by omega
            have hkn : (1 + (a.data.toList.take j).count 10 : Nat) = kn := by
              rw [List.take_of_length_le (by rw [← Lib.size_eq]; omega)]
              exact HKN.out.symm
            rw [hkn]
            clear hj hlt hkn
            go_wp2
            go_ret
            exact ⟨rfl, HB5.out⟩
      | ok us =>
        rw [hB] at hjoin
        replace hjoin : Lx.scanT (a.data.toList ++ 10 :: b.data.toList) = .ok (ts ++ us.map (shT (1 + a.data.toList.count 10))) := hjoin
        have hj2 : Lx.scanT (a ++ ⟨#[10]⟩ ++ b).data.toList = .ok (ts ++ us.map (shT (1 + a.data.toList.count 10))) := by rw [hcat]; exact hjoin
        have hul : us.length ≤ 2000 := by
          have := scanF_len _ _ _ _ hB
          simp only [List.length_nil] at this
          omega
        have hln : ∀ x ∈ us, x.line ≤ 2001 := scanF_line _ _ _ _ 2001 (by simp only; omega) (by simp) hB
        have HS2 : Hid (∀ W, Below w.heap.size w W → Calls Tryz.prog 7 #[.string b] W fun e w' => ∃ vo, e = .returned (.tuple #[vo, .agg #[.int .i64 0, .int .i64 0], .int .i64 0]) ∧ TRow w' W.heap.size vo us ∧ Below W.heap.size W w') := fun W hW => scan_ok (src := b) (by omega) (hF.below hW) (hE.below hW) hB
        have HS3 : Hid (∀ W, Below w.heap.size w W → Calls Tryz.prog 7 #[.string (a ++ ⟨#[10]⟩ ++ b)] W fun e w' => ∃ vo, e = .returned (.tuple #[vo, .agg #[.int .i64 0, .int .i64 0], .int .i64 0]) ∧ TRow w' W.heap.size vo (ts ++ us.map (shT (1 + a.data.toList.count 10))) ∧ Below W.heap.size W w') := fun W hW => scan_ok (by omega) (hF.below hW) (hE.below hW) hj2
        have hk : (a.data.toList.count 10 : Int) ≤ 2000 := by
          have := List.count_le_length (a := 10) (l := a.data.toList)
          omega
        have hk2 : (1 + a.data.toList.count 10 : Nat) ≤ 2001 := by omega
        obtain ⟨kn, hkn⟩ : ∃ kn, kn = 1 + a.data.toList.count 10 := ⟨_, rfl⟩
        rw [← hkn] at HS3 hk2
        have HKN := Lib.hid hkn
        have HTL := Lib.hid htl
        have HUL := Lib.hid hul
        have HLN := Lib.hid hln
        clear hkn hk hla hlb htl hul hln hj2 hjoin hA hB hF hE ha hb hbig hcat hcs hsb HSB HSC
        go_enter Tryz.func5, Tryz.ntmps5
        go_wp2_with (first
          | (go_at_call 7; (with_reducible refine HSA.out.mono ?_); rintro e w1 ⟨vo, rfl, hr, hb⟩; have HR1 := Lib.hid (hr.below ((Below.refl _ _).alloc (Nat.le_refl _) (.cells #[.int .i64 0, .int .i64 0] 26))); have HB1 := Lib.hid (hb.alloc hb.size (.cells #[.int .i64 0, .int .i64 0] 26)); clear hr hb HSA; dsimp only)
          | (go_at_call 7; (with_reducible refine (HS2.out _ HB1.out).mono ?_); rintro e w2 ⟨vo2, rfl, hr, hb⟩; have HR2 := Lib.hid (hr.below ((Below.refl _ _).alloc (Nat.le_refl _) (.cells #[.int .i64 0, .int .i64 0] 26))); replace HR1 := Lib.hid ((HR1.out.below hb).below ((Below.refl _ _).alloc (Nat.le_refl _) (.cells #[.int .i64 0, .int .i64 0] 26))); have HB2 := Lib.hid ((HB1.out.trans (hb.mono HB1.out.size)).alloc (HB1.out.trans (hb.mono HB1.out.size)).size (.cells #[.int .i64 0, .int .i64 0] 26)); clear hr hb HS2 HB1; dsimp only)
          | (go_at_call 7; (with_reducible refine (HS3.out _ HB2.out).mono ?_); rintro e w3 ⟨vo3, rfl, hr, hb⟩; have HR3 := Lib.hid (hr.below ((Below.refl _ _).alloc (Nat.le_refl _) (.cells #[.int .i64 0, .int .i64 0] 26))); replace HR1 := Lib.hid ((HR1.out.below hb).below ((Below.refl _ _).alloc (Nat.le_refl _) (.cells #[.int .i64 0, .int .i64 0] 26))); replace HR2 := Lib.hid ((HR2.out.below hb).below ((Below.refl _ _).alloc (Nat.le_refl _) (.cells #[.int .i64 0, .int .i64 0] 26))); have HB3 := Lib.hid ((HB2.out.trans (hb.mono HB2.out.size)).alloc (HB2.out.trans (hb.mono HB2.out.size)).size (.cells #[.int .i64 0, .int .i64 0] 26)); clear hr hb HS3 HB2; dsimp only)
          | (go_at_call 6; (with_reducible refine (HLX.out _ HB3.out).mono ?_); rintro e w4 ⟨rfl, hb⟩; have HB5 := Lib.hid (HB3.out.trans (hb.mono HB3.out.size)); replace HR1 := Lib.hid (HR1.out.below hb); replace HR2 := Lib.hid (HR2.out.below hb); replace HR3 := Lib.hid (HR3.out.below hb); clear hb HB3; dsimp only))
        have hk3 : (kn : Int) ≤ 2001 := by omega
        go_loopg [14, 15] a.size (fun gk s14 s15 wr => LineLoop w4 a gk s14 s15 wr)
        case atStart => exact ⟨0, by omega, rfl, by simp, rfl⟩
        case round =>
          obtain ⟨j, hj, rfl, rfl, rfl⟩ := hrel
          have HJ := Lib.hid hj
          by_cases hlt : j < a.size
          · obtain ⟨c, hc⟩ : ∃ c, a[j]'hlt = c := ⟨_, rfl⟩
            have hcl : a.data.toList[j]? = some c := by
              have := Lib.getD_at a j hlt
              rw [hc] at this
              rw [List.getElem?_eq_getElem (by rw [← Lib.size_eq]; exact hlt)] 
              rw [List.getD_eq_getElem?_getD, List.getElem?_eq_getElem (by rw [← Lib.size_eq]; exact hlt)] at this
              exact congrArg some this.symm
            have htk : a.data.toList.take (j + 1) = a.data.toList.take j ++ [c] := by rw [List.take_add_one, hcl]; rfl
            have HTK := Lib.hid htk
            have hcn : (a.data.toList.take j).count 10 ≤ 2000 := by
              have h1 := List.count_le_length (a := (10 : UInt8)) (l := a.data.toList.take j)
              rw [List.length_take, ← Lib.size_eq] at h1
              omega
            have k0 : (j : Int) < (a.size : Int) := by omega
            have k1 : (0 : Int) ≤ (j : Int) := by omega
            obtain ⟨cn, hcn2⟩ : ∃ cn : Nat, cn = 1 + (a.data.toList.take j).count 10 := ⟨_, rfl⟩
            rw [← hcn2]
            have HCN := Lib.hid hcn2
            have k2 : (cn : Int) ≤ 2001 := by omega
            clear hj hcl htk hcn hcn2
            by_cases h10 : c = 10
            · subst h10
              go_wp2
              go_roundg (gk - 1)
              case measure => have := HJ.out; omega
              case rel => exact ⟨j + 1, by have := HJ.out; omega, by simp, by rw [HTK.out, List.count_append, HCN.out]; simp; omega, rfl⟩
            · have q1 : ((c.toNat : Int) == 10) = false := ne_lit h10 (by rfl)
              go_wp2
              go_roundg (gk - 1)
              case measure => have := HJ.out; omega
              case rel => exact ⟨j + 1, by have := HJ.out; omega, by simp, by rw [HTK.out, List.count_append, HCN.out]; simp [h10], rfl⟩
          · have k0 : ¬ (j : Int) < (a.size : Int) := by omega
            have hkn : (1 + (a.data.toList.take j).count 10 : Nat) = kn := by
              rw [List.take_of_length_le (by rw [← Lib.size_eq]; omega)]
              exact HKN.out.symm
            rw [hkn]
            clear hj hlt hkn
            obtain ⟨a2, cap2, rfl⟩ : ∃ a2 cap2, vo2 = .slice a2 us.length cap2 := by
              rcases HR2.out.form with ⟨h1, h2⟩ | ⟨g, cap, h1, _⟩
              · exact ⟨none, 0, by rw [h2, h1]; rfl⟩
              · exact ⟨_, cap, h1⟩
            go_wp2_with (first
              | (go_at_call 9; (with_reducible refine (from_any _ _ _ _ HR1.out (by have := HTL.out; omega)).mono ?_); rintro e w5 ⟨v5, rfl, hr, hb⟩; have HR5 := Lib.hid hr; replace HB5 := Lib.hid (HB5.out.trans (hb.mono HB5.out.size)); replace HR2 := Lib.hid (HR2.out.below hb); replace HR3 := Lib.hid (HR3.out.below hb); clear hb hr HR1; dsimp only)
              | (at_builtin; refine wpList_appr0 (N := w5.heap.size) _ rfl _ _ rfl rfl (Nat.le_refl _) rfl HR5.out (by have := HTL.out; omega) ?_; intro v6 w6 hr6 hb6 hb7; have HR6 := Lib.hid hr6; have HB56 := Lib.hid hb6; clear hr6 hb6 hb7 HR5))
            go_loopg [16, 17] us.length (fun gk s16 s17 wr => WantLoop w5.heap.size w5 ts us kn gk s16 s17 wr)
            case atStart => exact ⟨0, by omega, rfl, by simpa using HR6.out, HB56.out⟩
            case round =>
              clear HR6 HB56
              obtain ⟨j, hj, rfl, hrw, hbw⟩ := hrel
              have HJ := Lib.hid hj
              have HRW := Lib.hid hrw
              have HBW := Lib.hid hbw
              obtain ⟨a16, c16, h16, _⟩ := hrw.form2
              generalize (ts ++ (us.take j).map (shT kn)).length = n16 at h16
              subst h16
              have hul2 : (us.length : Int) ≤ 2000 := by have := HUL.out; omega
              by_cases hlt : j < us.length
              · obtain ⟨t, ht⟩ : ∃ t, us[j]? = some t := ⟨_, List.getElem?_eq_getElem hlt⟩
                have HT := Lib.hid ht
                have htl := HLN.out t (List.mem_of_getElem? ht)
                have htl2 : (t.line : Int) ≤ 2001 := by omega
                have k0 : (j : Int) < (us.length : Int) := by omega
                have k1 : (0 : Int) ≤ (j : Int) := by omega
                clear hj hrw hbw hlt ht htl
                go_wp2_with (first
                  | (go_at_call 9; (with_reducible refine (from_any _ _ _ _ (HR2.out.below HBW.out) (by have := HUL.out; omega)).mono ?_); rintro e w7 ⟨v7, rfl, hr, hb⟩; obtain ⟨a7, c7, rfl, hc7⟩ := hr.form2; obtain ⟨g7, rfl, hg7, z0, z1, z2, z3, z4⟩ := hc7 j t HT.out; have HB7 := Lib.hid hb; clear hb hr hc7 hg7; dsimp only)
                  | (at_builtin; refine wpList_apprs (us := [shT kn t]) (N := w5.heap.size) ((w7.alloc (.cells #[.int .i64 t.kind, .int .i64 ((t.line : Int) + kn), .int .i64 t.col, .int .i64 t.num, .string (bytes t.text)] 36)).alloc (.cells #[.int .i64 t.kind, .int .i64 ((t.line : Int) + kn), .int .i64 t.col, .int .i64 t.num, .string (bytes t.text)] 36)) rfl _ _ rfl rfl (HRW.out.below ((HB7.out.alloc HB7.out.size _).alloc (by have := HB7.out.size; simp; omega) _)) (by have := HB5.out.size; have := HBW.out.size; have := HB7.out.size; simp; omega) rfl (new5 w7 _ _ _ _ _ _ _) (by simp) (by have := HTL.out; have := HUL.out; simp; omega) ?_; intro v9 w9 hr9 hb9; have HR9 := Lib.hid hr9; have HB9 := Lib.hid hb9; clear hr9 hb9))
                go_roundg (gk - 1)
                case measure => have := HJ.out; omega
                case rel =>
                  have e : us.take (j + 1) = us.take j ++ [t] := by rw [List.take_add_one, HT.out]; rfl
                  have h7 : Below w5.heap.size wr w7 := HB7.out.mono HBW.out.size
                  exact ⟨j + 1, by have := HJ.out; omega, by simp, by rw [e, List.map_append, ← List.append_assoc]; exact HR9.out, ((HBW.out.trans h7).alloc (by have := HBW.out.size; have := HB7.out.size; omega) _ |>.alloc (by have := HBW.out.size; have := HB7.out.size; simp; omega) _).trans HB9.out⟩
              · have k0 : ¬ (j : Int) < (us.length : Int) := by omega
                have hz : j = us.length := by omega
                have HZ := Lib.hid hz
                clear hj hrw hbw hlt hz
                have HRZ : Hid (RRow wr w5.heap.size (.slice a16 n16 c16) (ts ++ us.map (shT kn))) := by
                  have h := HRW.out
                  rwa [HZ.out, List.take_length] at h
                have HR3W := Lib.hid (HR3.out.below HBW.out)
                have HB8 := Lib.hid (HB5.out.trans (HBW.out.mono HB5.out.size))
                go_wp2_with (first
                  | (go_at_call 9; (with_reducible refine (from_any _ _ _ _ HR3W.out (by have := HTL.out; have := HUL.out; simp; omega)).mono ?_); rintro e w8 ⟨v8, rfl, hr, hb⟩; have HR8 := Lib.hid hr; replace HRZ := Lib.hid (HRZ.out.below hb); replace HB8 := Lib.hid (HB8.out.trans (hb.mono HB8.out.size)); clear hb hr; dsimp only)
                  | (go_at_call 11; (with_reducible refine (same_any _ _ _ _ _ _ HR8.out HRZ.out (by have := HTL.out; have := HUL.out; simp; omega)).mono ?_); rintro e w9 ⟨rfl, hb⟩; replace HB8 := Lib.hid (HB8.out.trans (hb.mono HB8.out.size)); clear hb; dsimp only))
                go_ret
                exact ⟨rfl, HB8.out⟩
end Go.Proofs.YtlailomhgipppaaGreatDoor
