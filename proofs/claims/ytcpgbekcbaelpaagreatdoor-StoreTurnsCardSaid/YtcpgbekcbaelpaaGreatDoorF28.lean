/- Texts of the proof, in build order: Chunk, Wl9, WlA, WlB, WlC. -/
import Derived.Test.YtcpgbekcbaelpaaGreatDoorF27
import Derived.RangeFuncNested
import Derived.RangeFuncKeeps
import Derived.RangeFuncOwn
import Derived.RangeFuncBound
import Derived.OwnWalkIn
import Derived.TacticsInMore
import Derived.RegionIn
import Derived.LoopIn
import Derived.LoopNIn
import Derived.Test.YtcpgbekcbaelpaaGreatDoorF05
import Derived.Deep.QuietTactic
import Derived.BigQuiet
import Derived.Test.YtcpgbekcbaelpaaGreatDoorF25
set_option linter.unusedVariables false
set_option linter.unusedSimpArgs false
set_option linter.unusedSectionVars false
/- slices.Chunk at bytes: the library's iterator. -/
namespace Go.Proofs.YtcpgbekcbaelpaaGreatDoor
open Go.RowKit Go.Shelf Go.Maps Wr
set_option linter.unusedVariables false
set_option linter.unusedSimpArgs false
attribute [local go_sem] Oper.semAt_some
def chunkV (ao : Option Addr) (n k i : Nat) : Value := sliced ao (i * k) (i * k + min k (n - i * k)) (i * k + min k (n - i * k)) 1
def KpC (Bs Bn : Nat) (A B : World) : Prop := B.heap[Bs]? = A.heap[Bs]? ∧ B.heap[Bn]? = A.heap[Bn]?
theorem kpC_t {Bs Bn : Nat} {A B C : World} (h : KpC Bs Bn A B) (g : KpC Bs Bn B C) : KpC Bs Bn A C := ⟨g.1.trans h.1, g.2.trans h.2⟩
theorem chunkV_form {w : World} {ao : Option Addr} {cap : Nat} {b : List UInt8} (h : BytesIn w (.slice ao b.length cap) b) (k i : Nat) (hi : i * k ≤ b.length) :
    ∃ a', chunkV ao b.length k i = .slice a' (min k (b.length - i * k)) (min k (b.length - i * k)) ∧ BytesIn w (.slice a' (min k (b.length - i * k)) (min k (b.length - i * k))) ((b.drop (i * k)).take k) := by
  obtain ⟨ao', cap', e, h2, h3, _⟩ := id h
  cases e
  obtain ⟨a', e1, e2⟩ := sliced_in h (i * k) (min k (b.length - i * k)) (i * k + min k (b.length - i * k)) (by omega) (Nat.le_refl _) (by omega)
  rw [show i * k + min k (b.length - i * k) - i * k = min k (b.length - i * k) by omega] at e1 e2
  refine ⟨a', e1, ?_⟩
  have e3 : (b.drop (i * k)).take (min k (b.length - i * k)) = (b.drop (i * k)).take k := by
    rw [List.take_eq_take_min (i := k), List.length_drop]
  rw [e3] at e2
  exact e2
set_option maxRecDepth 100000 in
set_option maxHeartbeats 2000000 in
theorem chunk1_in (n : Nat) (hn : 1 ≤ n) (l Bs Bn : Nat) (ao : Option Addr) (len cap k cnt : Nat) (hlc : len ≤ cap) (hk0 : 0 < k) (hk1 : k ≤ 1000000) (hlen : len ≤ 100000000) (hcnt : cnt = (len + k - 1) / k) (J Jx : List Nat → World → Prop)
    (hY : ∀ pre x W, J pre W → pre.length < cnt → pre = List.range x → x * k < len → YieldAt Fence.wide (n - 1) Tryz.prog l #[chunkV ao len k x] W fun e W' =>
      (e = .returned (.bool true) ∧ J (pre ++ [x]) W' ∧ KpC Bs Bn W W') ∨ (e = .returned (.bool false) ∧ Jx (pre ++ [x]) W'))
    (hJd : ∀ pre W n, J pre W → J pre (W.drewN n)) (W : World) (hBs : W.cell? ⟨Bs, 0, none⟩ = some (.slice ao len cap)) (hBn : W.cell? ⟨Bn, 0, none⟩ = some (.int .i64 (k : Int))) (h0 : J [] W) :
    CallsIn Fence.wide n Tryz.prog 143 #[.func (.yield l) #[] #[], .pointer (some ⟨Bs, 0, none⟩), .pointer (some ⟨Bn, 0, none⟩)] W fun e W' => (∃ v, e = .returned v) ∧
      ((∃ xs : List Nat, xs = List.range cnt ∧ J xs W') ∨ (∃ pre : List Nat, pre = List.range pre.length ∧ Jx pre W')) := by
  refine callsIn_of_wp Tryz.func143 rfl trivial ?_ rfl
  simp only [Tryz.ntmps143, List.size_toArray, List.length_cons, List.length_nil, Nat.reduceAdd, Nat.reduceSub, Array.replicate_succ, Array.replicate_zero, List.push_toArray, List.append_toArray, List.nil_append, List.cons_append]
  gi_wp2
  gi_loopw [4] (fun i wr => ∃ (m : Nat), i = .int .i64 ((m * k : Nat) : Int) ∧ m ≤ cnt ∧ J (List.range m) wr ∧ KpC Bs Bn W wr)
    (fun i _ => len + k - (intOf i).toNat)
  case atStart => exact ⟨0, by simp, Nat.zero_le _, h0, rfl, rfl⟩
  case round =>
    obtain ⟨m, rfl, hm, hJs, hkp⟩ := hrel
    have hBs' : wr.cell? ⟨Bs, 0, none⟩ = some (.slice ao len cap) := by
      rw [← hBs]
      unfold World.cell?
      rw [hkp.1]
    have hBn' : wr.cell? ⟨Bn, 0, none⟩ = some (.int .i64 (k : Int)) := by
      rw [← hBn]
      unfold World.cell?
      rw [hkp.2]
    obtain ⟨o, ho⟩ : ∃ o, m * k = o := ⟨_, rfl⟩
    have HO := Lib.hid ho
    have HM := Lib.hid hm
    have HJ := Lib.hid hJs
    have HKP := Lib.hid hkp
    have HCN := Lib.hid hcnt
    rw [ho]
    clear hm hJs hkp
    by_cases hlt : o < len
    · have hYm := fun nq => hY (List.range m) m (wr.drewN nq) (hJd _ _ nq HJ.out) (by rw [List.length_range]; have h3 := HCN.out; rw [h3, Nat.lt_iff_add_one_le, Nat.le_div_iff_mul_le hk0, Nat.add_mul, ho]; omega) rfl (by rw [ho]; exact hlt)
      have HYM := Lib.hid hYm
      clear hYm
      obtain ⟨q, hq⟩ : ∃ q, o + q = len := ⟨len - o, by omega⟩
      obtain ⟨r, hr⟩ : ∃ r, min k q = r := ⟨_, rfl⟩
      have hsz : ∀ W, (sizeOf (Tryz.prog.elem 44)).run Tryz.prog W = .ok 1 W := fun W => by kernel_rfl
      obtain ⟨a2, c2, hs1⟩ : ∃ a2 c2, ∀ W, (Instr.slice 44 (.slice ao len cap) (some (.int .i64 (o : Int))) none none).run Tryz.prog W = .ok (.slice a2 q c2) W := by
        refine ⟨if cap = o then ao else ao.map (·.add (o * 1)), cap - o, fun W => ?_⟩
        · have := run_slice_l (P := Tryz.prog) (w := W) 44 ao len cap (by kernel_rfl) .i64 (o : Int) (by omega) (by omega)
          simp only [hsz, Result.andThen, Int.toNat_natCast, sliced, show len - o = q by omega] at this
          exact this
      have hs2 : ∀ W, (Instr.slice 44 (.slice ao len cap) (some (.int .i64 (o : Int))) (some (.int .i64 ((o : Int) + (r : Int)))) (some (.int .i64 ((o : Int) + (r : Int))))).run Tryz.prog W = .ok (chunkV ao len k m) W := fun W => by
        have := run_slice_lhm (P := Tryz.prog) (w := W) 44 ao len cap (by kernel_rfl) .i64 .i64 .i64 (o : Int) ((o : Int) + (r : Int)) ((o : Int) + (r : Int)) (by omega) (by omega) (by omega) (by omega)
        simp only [hsz, Result.andThen, Int.toNat_natCast, show ((o : Int) + (r : Int)).toNat = o + r by omega] at this
        rw [this]
        unfold chunkV
        rw [ho, show len - o = q by omega, hr]
      have hmin : min (k : Int) (q : Int) = (r : Int) := by omega
      have g1 : (o : Int) < (len : Int) := by omega
      have w1 : IntKind.i64.wrap ((o : Int) + (r : Int)) = (o : Int) + (r : Int) := by rw [IntKind.wrap_i64]; omega
      have w2 : IntKind.i64.wrap ((o : Int) + (k : Int)) = (o : Int) + (k : Int) := by rw [IntKind.wrap_i64]; omega
      have HQ := Lib.hid hq
      have HRR := Lib.hid hr
      clear hq hr hlt hcnt hsz ho
      gi_wp2
      refine wpIn_wide.2 ?_
      go_quiet (fail)
      obtain ⟨fn, tmps, assign, body, hy, hR⟩ := HYM.out nq
      have HR := Lib.hid hR
      clear hR
      gi_wp2
      refine HR.out.mono ?_
      rintro e W3 (⟨rfl, hJ3, hk3⟩ | ⟨rfl, hJx3⟩)
      · have b2 : W3.cell? ⟨Bn, 0, none⟩ = some (.int .i64 (k : Int)) := by
          rw [← hBn']
          unfold World.cell?
          rw [show W3.heap[(⟨Bn, 0, none⟩ : Addr).block]? = wr.heap[(⟨Bn, 0, none⟩ : Addr).block]? from hk3.2]
        have HJ3 := Lib.hid hJ3
        have HK3 := Lib.hid hk3
        clear hJ3 hk3
        gi_wp2
        have hq := HQ.out
        have ho := HO.out
        refine ⟨⟨m + 1, ?_, ?_, by rw [List.range_succ]; exact HJ3.out, kpC_t HKP.out (show KpC Bs Bn wr W3 from HK3.out)⟩, by simp only [intOf]; omega⟩
        · rw [Nat.add_mul, ho, Nat.one_mul]
          push_cast
          rfl
        · have h3 := HCN.out
          rw [h3, Nat.le_div_iff_mul_le hk0, Nat.add_mul, ho]
          omega
      · gi_wp2
        refine bodyPost_ret (results_none rfl _ _ _) rfl ?_
        exact ⟨⟨_, rfl⟩, .inr ⟨_, by rw [List.length_append, List.length_range, List.length_singleton, List.range_succ], hJx3⟩⟩
    · have g1 : ¬ (o : Int) < (len : Int) := by omega
      gi_wp2
      go_end0
      refine ⟨⟨_, rfl⟩, .inl ?_⟩
      have hmc : m = (len + k - 1) / k := by
        refine Nat.le_antisymm (by have := HM.out; have h3 := HCN.out; omega) ?_
        rw [Nat.div_le_iff_le_mul_add_pred hk0]
        have := HO.out
        rw [Nat.mul_comm] at this
        omega
      rw [← hmc]
      exact HJ.out
abbrev PC (k len : Nat) := { i : Nat // i * k < len }
theorem chunk_stops (n : Nat) (hn : 1 ≤ n) (Bs Bn : Nat) (ao : Option Addr) (len cap k cnt : Nat) (hlc : len ≤ cap) (hk0 : 0 < k) (hk1 : k ≤ 1000000) (hlen : len ≤ 100000000) (hcnt : cnt = (len + k - 1) / k) (w : World) (hBs : Bs < w.heap.size) (hBn : Bn < w.heap.size)
    (hc : w.cell? ⟨Bs, 0, none⟩ = some (.slice ao len cap)) (hd : w.cell? ⟨Bn, 0, none⟩ = some (.int .i64 (k : Int))) :
    SeqStopsK Fence.wide n Tryz.prog 143 #[.pointer (some ⟨Bs, 0, none⟩), .pointer (some ⟨Bn, 0, none⟩)] (fun i : PC k len => #[chunkV ao len k i.1]) (KpC Bs Bn) (fun ys => ys.map (·.1) = List.range cnt) (fun ys => ys.map (·.1) = List.range ys.length) cnt w := fun l J Jx W hW hJ _ hY h0 => by
  have hc' := (hW.cell (p := ⟨Bs, 0, none⟩) hBs).trans hc
  have hd' := (hW.cell (p := ⟨Bn, 0, none⟩) hBn).trans hd
  refine (chunk1_in n hn l Bs Bn ao len cap k cnt hlc hk0 hk1 hlen hcnt (fun pre W => ∃ pre' : List (PC k len), pre'.map (·.1) = pre ∧ J pre' W) (fun pre W => ∃ pre' : List (PC k len), pre'.map (·.1) = pre ∧ Jx pre' W) (fun pre x W1 hJ hl _ hx => ?_) (fun pre W1 m ⟨pre', h1, h⟩ => ⟨pre', h1, hJ pre' W1 (W1.drewN m) none h ⟨rfl, rfl, rfl, Nat.le_refl _, fun _ _ _ => rfl⟩ (fun r e => by cases e)⟩) W hc' hd' ⟨[], rfl, h0⟩).mono fun e W' ⟨he, hj⟩ => ⟨he, ?_⟩
  · obtain ⟨pre', hp, hJ⟩ := hJ
    refine YieldAt.mono (hY pre' ⟨x, hx⟩ W1 hJ (by rw [← hp, List.length_map] at hl; exact hl)) fun e W' h => ?_
    rcases h with ⟨h1, h2, h3⟩ | ⟨h1, h2⟩
    · exact .inl ⟨h1, ⟨_, by rw [List.map_append, hp]; rfl, h2⟩, h3⟩
    · exact .inr ⟨h1, _, by rw [List.map_append, hp]; rfl, h2⟩
  · rcases hj with ⟨ys, hys, pre', hp, hj⟩ | ⟨pre, hpr, pre', hp, hj⟩
    · exact .inl ⟨pre', (show pre'.map (·.1) = _ from by rw [hp, hys]), hj⟩
    · exact .inr ⟨pre', (show pre'.map (·.1) = List.range pre'.length from by rw [hp, hpr, ← hp, List.length_map]), hj⟩
theorem chunks_range {k : Nat} (hk : 0 < k) : ∀ (n : Nat) (b : List UInt8), b.length ≤ n → St.chunks k b = (List.range ((b.length + k - 1) / k)).map fun i => (b.drop (i * k)).take k
  | 0, b, h => by
    have : b = [] := List.length_eq_zero_iff.1 (by omega)
    subst this
    rw [St.chunks_nil]
    have : (([] : List UInt8).length + k - 1) / k = 0 := Nat.div_eq_of_lt (by simp; omega)
    rw [this]
    rfl
  | n + 1, b, h => by
    by_cases hb : b = []
    · subst hb
      rw [St.chunks_nil]
      have : (([] : List UInt8).length + k - 1) / k = 0 := Nat.div_eq_of_lt (by simp; omega)
      rw [this]
      rfl
    · have hp : 0 < b.length := List.length_pos_iff.2 hb
      rw [St.chunks_cons hk hb, chunks_range hk n (b.drop k) (by rw [List.length_drop]; omega)]
      have hc : (b.length + k - 1) / k = ((b.drop k).length + k - 1) / k + 1 := by
        rw [List.length_drop]
        by_cases hle : b.length ≤ k
        · have e1 : b.length - k = 0 := by omega
          rw [e1, Nat.zero_add, Nat.div_eq_of_lt (show k - 1 < k by omega), show b.length + k - 1 = b.length - 1 + k by omega, Nat.add_div_right _ hk, Nat.div_eq_of_lt (by omega)]
        · rw [show b.length + k - 1 = b.length - k + k - 1 + k by omega, Nat.add_div_right _ hk]
      rw [hc, List.range_succ_eq_map, List.map_cons, List.map_map]
      congr 1
      · simp
      · refine List.map_congr_left fun i _ => ?_
        simp only [Function.comp, List.drop_drop]
        rw [show k + i * k = (i + 1) * k by rw [Nat.add_mul]; omega]
set_option maxRecDepth 100000 in
theorem chunk_in (n : Nat) (ao : Option Addr) (len cap k : Nat) (hk0 : 0 < k) (w : World) :
    CallsIn Fence.wide n Tryz.prog 95 #[.slice ao len cap, .int .i64 (k : Int)] w fun e w' => e = .returned (.func (.func 143) #[] #[.pointer (some ⟨w.heap.size, 0, none⟩), .pointer (some ⟨w.heap.size + 1, 0, none⟩)]) ∧ w' = (w.alloc (.cells #[.slice ao len cap] 44)).alloc (.cells #[.int .i64 (k : Int)] 3) := by
  have g1 : ¬ (k : Int) < 1 := by omega
  refine callsIn_of_wp Tryz.func95 rfl trivial ?_ rfl
  simp only [Tryz.ntmps95, List.size_toArray, List.length_cons, List.length_nil, Nat.reduceAdd, Nat.reduceSub, Array.replicate_succ, Array.replicate_zero, List.push_toArray, List.append_toArray, List.nil_append, List.cons_append]
  gi_wp2
  go_ret
  exact ⟨rfl, rfl⟩
end Go.Proofs.YtcpgbekcbaelpaaGreatDoor
/- Layer 5: a record more. -/
namespace Go.Proofs.YtcpgbekcbaelpaaGreatDoor
open Go.RowKit Go.Shelf Go.Maps Wr
set_option linter.unusedVariables false
set_option linter.unusedSimpArgs false
attribute [local go_sem] Oper.semAt_some
theorem wl_cells1 {w : World} {b : Nat} {x0 : Value} {T : TypeId} (h : w.heap[b]? = some (.cells #[x0] T (0, 0))) : w.cell? ⟨b, 0, none⟩ = some x0 ∧ (∀ j, w.frozen? ⟨b, j, none⟩ = false) :=
  ⟨by simp [World.cell?, h], fun j => by simp [World.frozen?, h]⟩
theorem step_appx {w : World} {ops : Array Oper} {o : Oper} {ac : Act} {K : Act → World → Prop} {Q : Exit → Act → World → Prop} {E : Prop} (hgd : o.guard = none) (s x : Operand)
    (ho : o.op = .call { callee := .builtin .append, args := #[s, x], argTypes := #[44, 44] }) {va vb : Value} {a b : List UInt8} (hs : ac.eval s = va) (hx : ac.eval x = vb) (ha : BFull w va a) (hb : BytesIn w vb b) (hne : b ≠ []) (h63 : a.length + b.length ≤ 1000000000)
    (h : ∀ v' w', ByteRow w' w.heap.size v' (a ++ b) → Below w.heap.size w w' → K (ac.put o.dst v') w') : if Region.wanted o (yielded ops ac.tmps) = true then Oper.wp Tryz.prog o ac w K Q else E := by
  have hw : Region.wanted o (yielded ops ac.tmps) = true := by simp [Region.wanted, hgd]
  rw [if_pos hw]
  obtain ⟨v', w', hr, h1, h2⟩ := run_appx ha hb hne h63 o.type
  exact Lib.wp_append_run w s x _ _ ho va vb hs hx v' w' hr (h v' w' h1 h2)
def ApI (W3 : World) (kb g gm n0 pos : Nat) (b : List UInt8) (D : St.Dk) (M R : Nat → Prop) (pre : List Nat) (W : World) : Prop :=
  ∃ Dk, St.writesD (pos : Int) (pre.map fun i => St.pad (68 :: (b.drop (i * 511)).take 511)) D = (.ok (), Dk) ∧ DkAtM W g gm Dk (Gro M n0) (Gro R n0) ∧ Turn (fun k => M k ∨ k = kb) W3 W ∧ W.heap[kb]? = some (.cells #[.int .i64 (pre.length : Int)] 3 (0, 0))
theorem ApI.own {W3 A B : World} {kb g gm n0 pos : Nat} {b : List UInt8} {D : St.Dk} {M R : Nat → Prop} {pre : List Nat} {row : Option Nat} (h : ApI W3 kb g gm n0 pos b D M R pre A) (hk : kb < n0) (hgm : gm < n0) (hW : W3.heap.size = n0) (hg : A.grownBy B row) (hr : ∀ r, row = some r → n0 ≤ r ∧ ∃ o : Obj, A.heap[r]? = some o ∧ o.isCells = false) : ApI W3 kb g gm n0 pos b D M R pre B := by
  obtain ⟨Dk, h1, h2, h3, h4⟩ := h
  have hc : Chg row.toList A B := (Chg.refl _ A).grown hg (fun k hk => .inl (by simp [hk]))
  have ht : Turn (fun k => row = some k) A B := Turn.of_chg hc (fun k hk => .inl (by simpa using hk))
  have hno : ∀ k, row = some k → ¬ IsCells A k := fun k e ⟨c, t, fz, hh⟩ => by
    obtain ⟨_, o, ho, hcl⟩ := hr k e
    rw [hh] at ho
    cases ho
    cases hcl
  refine ⟨Dk, h1, (h2.cells.turn ht (fun k hk e => ?_) (fun k hk e => hno k e hk.2)).mono (fun k _ hk => hk.1) (fun k _ hk => hk.1), h3.trans (M' := fun k => row = some k) ht (fun k hk => .inr (by rw [hW]; exact (hr k hk).1)), ?_⟩
  · rcases hk.2 with hx | hx
    · have := (hr k e).1
      omega
    · exact hno k e hx
  · refine (ht.block kb (lt_of_block h4) (fun e => ?_)).trans h4
    have := (hr kb e).1
    omega
theorem live_write {D : St.Dk} {i : Int} {b : List UInt8} (h1 : D.off = false) (h2 : D.left = -1) (hi : 0 ≤ i ∧ i < D.last.length) (hb : b.length = 512) : (D.write i b).2 = 0 ∧ (D.write i b).1.off = false ∧ (D.write i b).1.left = -1 := by
  have hs : D.spend = ({ D with left := -1, steps := D.steps + 1 }, 0) := by
    unfold St.Dk.spend
    rw [h2, if_neg (by decide), if_neg (by decide)]
  unfold St.Dk.write
  rw [if_neg (by rw [h1]; decide), if_neg (fun h => by rcases h with h | h; exact h hi; exact h hb), hs]
  exact ⟨rfl, h1, rfl⟩
theorem live_writes : ∀ (l : List (List UInt8)) (i : Int) (D D' : St.Dk), D.off = false → D.left = -1 → St.writesD i l D = (.ok (), D') → D'.off = false ∧ D'.left = -1
  | [], i, D, D', h1, h2, h => by cases h; exact ⟨h1, h2⟩
  | c :: l, i, D, D', h1, h2, h => by
    rw [St.writesD] at h
    cases h3 : St.writeD i c D with
    | mk r d =>
      cases r with
      | error e => rw [andThen_no h3] at h; cases h
      | ok u =>
        rw [andThen_ok h3] at h
        have hd : d = (D.write i c).1 ∧ (D.write i c).2 = 0 := by
          unfold St.writeD at h3
          split at h3
          · rename_i hz; cases h3; exact ⟨rfl, hz⟩
          · cases h3
        have hs : D.spend = ({ D with left := -1, steps := D.steps + 1 }, 0) := by
          unfold St.Dk.spend
          rw [h2, if_neg (by decide), if_neg (by decide)]
        have hl : d.off = false ∧ d.left = -1 := by
          rw [hd.1]
          have h0 := hd.2
          unfold St.Dk.write at h0 ⊢
          rw [if_neg (by rw [h1]; decide)] at h0 ⊢
          split at h0
          · cases h0
          · rename_i hn
            rw [if_neg hn, hs]
            exact ⟨h1, rfl⟩
        exact live_writes l _ _ _ hl.1 hl.2 h
theorem live_barrier {D : St.Dk} (h1 : D.off = false) (h2 : D.left = -1) : D.barrier.2 = 0 ∧ D.barrier.1.off = false ∧ D.barrier.1.left = -1 := by
  have hs : D.spend = ({ D with left := -1, steps := D.steps + 1 }, 0) := by
    unfold St.Dk.spend
    rw [h2, if_neg (by decide), if_neg (by decide)]
  unfold St.Dk.barrier
  rw [if_neg (by rw [h1]; decide), hs]
  exact ⟨rfl, h1, rfl⟩
theorem logFirst_len {age n : Int} {b : List UInt8} (h1 : 0 ≤ age ∧ age ≤ 4611686018427387904) (h2 : 0 ≤ n ∧ n ≤ 4611686018427387904) (hl : b.length ≤ 16777216) : (St.logFirst age n b).length ≤ 512 := by
  have a1 := num_len (n := age) (by omega) (by omega)
  have a2 := num_len (n := n) (by omega) (by omega)
  have a3 := num_len (n := (b.length : Int)) (by omega) (by omega)
  have a4 := num_len (n := ((St.crc b : Nat) : Int)) (by have := crc_le b; omega) (by have := crc_le b; omega)
  unfold St.logFirst
  rw [List.length_cons, St.close_len]
  simp only [List.length_append]
  omega
theorem kpC_b {Bs Bn n : Nat} (h1 : Bs < n) (h2 : Bn < n) (W : World) (l : Nat) (o o' : Obj) (hl : n ≤ l) (_ : W.heap[l]? = some o) (_ : o.isCells = false) (_ : o.isWalk = false) : KpC Bs Bn W (W.putObj l o') :=
  ⟨World.putObj_heap_other (by omega), World.putObj_heap_other (by omega)⟩
theorem lgfull_cells {w : World} {g p : Nat} {l : St.Lg} (h : w.heap[p]? = some (logO g l)) : w.cell? ⟨p, 0, none⟩ = some (.pointer (some ⟨g, 0, none⟩)) ∧ w.cell? ⟨p, 1, none⟩ = some (.int .i64 (l.first : Int)) ∧ w.cell? ⟨p, 2, none⟩ = some (.int .i64 (l.count : Int)) ∧ w.cell? ⟨p, 3, none⟩ = some (.int .i64 l.age) ∧ w.cell? ⟨p, 4, none⟩ = some (.int .i64 l.next) ∧ w.cell? ⟨p, 5, none⟩ = some (.int .i64 (l.at' : Int)) ∧ (∀ j, w.frozen? ⟨p, j, none⟩ = false) := cells6 h
set_option maxRecDepth 100000 in
set_option maxHeartbeats 8000000 in
theorem walAppend_clip {w : World} {g p N : Nat} {D D' : St.Dk} {M R : Nat → Prop} {l l' : St.Lg} {v : Value} {b : List UInt8} (h : DkAt w g D M R) (hp : w.heap[p]? = some (logO g l)) (hM : ∀ k, M k → k < w.heap.size) (hR : ∀ k, R k → k < w.heap.size) (hMp : ¬ M p) (hRp : ¬ R p) (hG : ¬ M 0) (hT : Half w) (hb : ByteRow w N v b) (hMb : ∀ k, v.ownBlock = some k → ¬ M k ∧ k ≠ p)
    (hf : l.first ≤ 100000 ∧ l.count ≤ 100000 ∧ l.at' ≤ l.count) (ha : 0 ≤ l.age ∧ l.age ≤ St.mostAge) (hn : 0 ≤ l.next ∧ l.next ≤ 100000000) (hl : b.length ≤ 16777216) (hw : D.waits.length ≤ 100000) (hlv : D.off = false ∧ D.left = -1) (hlen : l.first + l.count ≤ D.last.length) (hok : l.append b D = (.ok l', D')) :
    Calls Tryz.prog 47 #[.pointer (some ⟨p, 0, none⟩), v] w (LgEnd w g p M R l (l.append b D)) := by
  obtain ⟨first, count, age, next, at'⟩ := l
  dsimp only at hf ha hn hp hlen
  replace ha : 0 ≤ age ∧ age ≤ 4611686018427387904 := ha
  have hneed : at' + St.need b.length ≤ count := by
    unfold St.Lg.append at hok
    rw [if_neg (by omega)] at hok
    dsimp only at hok
    by_cases hc : count < at' + St.need b.length
    · rw [if_pos hc] at hok; cases hok
    · omega
  have HND := Lib.hid hneed
  have HH := Lib.hid h
  have HMM := Lib.hid hM
  have HRR := Lib.hid hR
  have HP := Lib.hid hp
  have HMP := Lib.hid hMp
  have HG := Lib.hid hG
  have HT := Lib.hid hT
  have HMB := Lib.hid hMb
  have HLV := Lib.hid hlv
  have HLEN := Lib.hid hlen
  have HWA := Lib.hid hw
  have HB := Lib.hid hb
  have HOK := Lib.hid hok
  have HL := Lib.hid hl
  obtain ⟨ao, cap, rfl, hc1, hc2⟩ := hb.form
  have HC1 := Lib.hid hc1
  have HNE : Hid (∀ W, Calls Tryz.prog 94 #[.int .i64 (b.length : Int)] W fun e w' => e = .returned (.int .i64 ((St.need b.length : Nat) : Int)) ∧ W = w') := fun W => walNeed_any b.length (by omega) W
  have hll : (b.length : Int) ≤ 16777216 := by omega
  have q4 : decide ((16777216 : Int) < (b.length : Int)) = false := by simpa using hll
  have q5 : decide ((b.length : Int) > (16777216 : Int)) = false := by simpa using hll
  have f0 : ∀ W, Below w.heap.size w W → W.heap[p]? = some (logO g ⟨first, count, age, next, at'⟩) := fun W hW => (hW.block _ (lt_of_block HP.out)).trans HP.out
  have HF0 := Lib.hid f0
  obtain ⟨nd, hnd⟩ : ∃ nd, St.need b.length = nd := ⟨_, rfl⟩
  have HNDQ := Lib.hid hnd
  rw [hnd] at HNE hneed
  have q1 : (nd : Int) ≤ (count : Int) - (at' : Int) := by omega
  have q2 : IntKind.i64.wrap ((count : Int) - (at' : Int)) = (count : Int) - (at' : Int) := by rw [IntKind.wrap_i64]; omega
  have q6 : decide ((count : Int) - (at' : Int) < (nd : Int)) = false := by simpa using q1
  have q3 : ¬ ((nd : Int) > (count : Int) - (at' : Int)) := by omega
  clear h hM hR hMb hG hT hlv hlen hw hp hb hok hl hc1 hc2 f0 hnd hneed
  refine (callsIn_wide (n := 6)).1 ?_
  refine callsIn_of_wp_marks Tryz.func47 rfl trivial ?_ rfl
  simp only [Tryz.ntmps47, List.size_toArray, List.length_cons, List.length_nil, Nat.reduceAdd, Nat.reduceSub, Array.replicate_succ, Array.replicate_zero, List.push_toArray, List.append_toArray, List.nil_append, List.cons_append]
  gi_wp2
  have hb1 : Below w.heap.size w ((w.alloc (.cells #[.pointer (some ⟨p, 0, none⟩)] 105)).alloc (.cells #[.int .i64 0] 29)) := ((Below.refl _ _).alloc (Nat.le_refl _) _).alloc (by simp) _
  have hz1 : ((w.alloc (.cells #[.pointer (some ⟨p, 0, none⟩)] 105)).alloc (.cells #[.int .i64 0] 29)).heap.size = w.heap.size + 1 + 1 := by simp
  have hx1 : ((w.alloc (.cells #[.pointer (some ⟨p, 0, none⟩)] 105)).alloc (.cells #[.int .i64 0] 29)).heap[w.heap.size]? = some (.cells #[.pointer (some ⟨p, 0, none⟩)] 105 (0, 0)) := blk_alloc (heap_alloc_new _ _) _
  have hy1 : ((w.alloc (.cells #[.pointer (some ⟨p, 0, none⟩)] 105)).alloc (.cells #[.int .i64 0] 29)).heap[w.heap.size + 1]? = some (.cells #[.int .i64 0] 29 (0, 0)) := by
    have := heap_alloc_new (w.alloc (.cells #[.pointer (some ⟨p, 0, none⟩)] 105)) (.cells #[.int .i64 0] 29)
    simpa using this
  generalize ((w.alloc (.cells #[.pointer (some ⟨p, 0, none⟩)] 105)).alloc (.cells #[.int .i64 0] 29)) = W1 at *
  obtain ⟨c0, c1, c2, c3, c4, c5, cf⟩ := lgfull_cells (HF0.out W1 hb1)
  obtain ⟨x0, _⟩ := wl_cells1 hx1
  obtain ⟨y0, yf⟩ := wl_cells1 hy1
  have HB1 := Lib.hid hb1
  have HZ1 := Lib.hid hz1
  have HX1 := Lib.hid hx1
  have HY1 := Lib.hid hy1
  clear hb1 hz1 hx1 hy1
  refine wpIn_wide.2 ?_
  go_quiet ((go_at_call 94; exact wqs1 (HNE.out _)))
  have hb2 : Below w.heap.size w (W1.drewN nq) := below_drewN HB1.out nq
  have hz2 : (W1.drewN nq).heap.size = w.heap.size + 1 + 1 := HZ1.out
  have hx2 : (W1.drewN nq).heap[w.heap.size]? = some (.cells #[.pointer (some ⟨p, 0, none⟩)] 105 (0, 0)) := HX1.out
  have hy2 : (W1.drewN nq).heap[w.heap.size + 1]? = some (.cells #[.int .i64 0] 29 (0, 0)) := HY1.out
  clear HB1 HZ1 HX1 HY1 c0 c1 c2 c3 c4 c5 cf x0 y0 yf
  generalize W1.drewN nq = W2 at *
  gi_wp2_with (refine ⟨trivial, ?_⟩; gi_at_call 95; refine (chunk_in 5 ao b.length cap 511 (by omega) _).mono ?_; rintro e w' ⟨rfl, rfl⟩)
  have hz0 : (W2.alloc (.cells #[.int .i64 0] 3)).heap.size = w.heap.size + 1 + 1 + 1 := by simp [hz2]
  have hz1 : ((W2.alloc (.cells #[.int .i64 0] 3)).alloc (.cells #[.slice ao b.length cap] 44)).heap.size = w.heap.size + 1 + 1 + 1 + 1 := by simp [hz2]

  have hb3 : Below w.heap.size w (((W2.alloc (.cells #[.int .i64 0] 3)).alloc (.cells #[.slice ao b.length cap] 44)).alloc (.cells #[.int .i64 511] 3)) := ((hb2.alloc hb2.size _).alloc (by simp; omega) _).alloc (by simp; omega) _
  have hz3 : (((W2.alloc (.cells #[.int .i64 0] 3)).alloc (.cells #[.slice ao b.length cap] 44)).alloc (.cells #[.int .i64 511] 3)).heap.size = w.heap.size + 1 + 1 + 1 + 1 + 1 := by simp [hz2]
  have hx3 : (((W2.alloc (.cells #[.int .i64 0] 3)).alloc (.cells #[.slice ao b.length cap] 44)).alloc (.cells #[.int .i64 511] 3)).heap[w.heap.size]? = some (.cells #[.pointer (some ⟨p, 0, none⟩)] 105 (0, 0)) := blk_alloc (blk_alloc (blk_alloc hx2 _) _) _
  have hy3 : (((W2.alloc (.cells #[.int .i64 0] 3)).alloc (.cells #[.slice ao b.length cap] 44)).alloc (.cells #[.int .i64 511] 3)).heap[w.heap.size + 1]? = some (.cells #[.int .i64 0] 29 (0, 0)) := blk_alloc (blk_alloc (blk_alloc hy2 _) _) _
  have hk3 : (((W2.alloc (.cells #[.int .i64 0] 3)).alloc (.cells #[.slice ao b.length cap] 44)).alloc (.cells #[.int .i64 511] 3)).heap[w.heap.size + 1 + 1]? = some (.cells #[.int .i64 0] 3 (0, 0)) := blk_alloc (blk_alloc (hz2 ▸ heap_alloc_new W2 _) _) _
  have hs3 : (((W2.alloc (.cells #[.int .i64 0] 3)).alloc (.cells #[.slice ao b.length cap] 44)).alloc (.cells #[.int .i64 511] 3)).heap[w.heap.size + 1 + 1 + 1]? = some (.cells #[.slice ao b.length cap] 44 (0, 0)) := blk_alloc (hz0 ▸ heap_alloc_new _ _) _
  have hn3 : (((W2.alloc (.cells #[.int .i64 0] 3)).alloc (.cells #[.slice ao b.length cap] 44)).alloc (.cells #[.int .i64 511] 3)).heap[w.heap.size + 1 + 1 + 1 + 1]? = some (.cells #[.int .i64 511] 3 (0, 0)) := hz1 ▸ heap_alloc_new _ _
  generalize (((W2.alloc (.cells #[.int .i64 0] 3)).alloc (.cells #[.slice ao b.length cap] 44)).alloc (.cells #[.int .i64 511] 3)) = W3 at *
  have HB3 := Lib.hid hb3
  have HZ3 := Lib.hid hz3
  have HX3 := Lib.hid hx3
  have HY3 := Lib.hid hy3
  have HK3 := Lib.hid hk3
  obtain ⟨gm, hd3⟩ := (HH.out.below hb3).atM
  have HGM : Hid (gm < W3.heap.size) := by obtain ⟨_, _, _, _, _, _, hx⟩ := hd3; exact hx.map.lt
  have HD3 := Lib.hid hd3
  have HP3 := Lib.hid (HF0.out W3 hb3)
  have hcl := HC1.out
  have hlb := HL.out
  have HBY : Hid (BytesIn W3 (.slice ao b.length cap) b) := BytesIn.row (HB.out.below hb3)
  have HROW : Hid (∀ X, Turn (fun k => M k ∨ k = w.heap.size + 1 + 1) W3 X → ByteRow X N (.slice ao b.length cap) b) := fun X hX => ⟨(HB.out.below hb3).1.turn hX (fun k hk h => by
    rcases h with h | h
    · exact (HMB.out k hk).1 h
    · have := HB.out.lt hk; omega), HB.out.2⟩
  clear hb2 hx2 hy2 hz2 hz0 hz1 hb3 hx3 hy3 hk3 hd3
  refine wpIn_rangeFunc_ownH rfl (by omega) (gf := 143) (lb := #[.pointer (some ⟨w.heap.size + 1 + 1 + 1, 0, none⟩), .pointer (some ⟨w.heap.size + 1 + 1 + 1 + 1, 0, none⟩)]) rfl trivial (enters_of Tryz.func143 (by kernel_rfl) rfl)
    (chunk_stops 5 (by omega) (w.heap.size + 1 + 1 + 1) (w.heap.size + 1 + 1 + 1 + 1) ao b.length cap 511 _ hcl (by omega) (by omega) (by omega) rfl W3 (by omega) (by omega) (by simp [World.cell?, hs3]) (by simp [World.cell?, hn3])) kpC_t (kpC_b (by omega) (by omega)) (Below.refl _ _) (fun _ => rfl)
    (fun (pre : List (PC 511 b.length)) W => ApI W3 (w.heap.size + 1 + 1) g gm W3.heap.size (first + at' + 1) b D M R (pre.map Subtype.val) W)
    (fun _ _ _ => False)
    (fun pre A B row hs hg hr => hs.own (by omega) HGM.out rfl hg hr)
    (fun c _ A B row hs hg hr => hs)
    ⟨D, rfl, HD3.out.gro _, Turn.refl _ _, by simpa using HK3.out⟩
    (fun (x : PC 511 b.length) a' W => a' = { tmps := #[.pointer (some ⟨p, 0, none⟩), .slice ao b.length cap, .pointer (some ⟨w.heap.size, 0, none⟩), undef, .pointer (some ⟨w.heap.size + 1, 0, none⟩), .pointer (some ⟨w.heap.size + 1 + 1, 0, none⟩), chunkV ao b.length 511 x.1, undef, undef, undef, undef, .bool false, .pointer (some ⟨p, 0, none⟩), .bool false, .bool false, .slice ao b.length cap, .int .i64 (b.length : Int), .bool false, .bool false, .slice ao b.length cap, .int .i64 (b.length : Int), .int .i64 (nd : Int), .pointer (some ⟨p, 0, none⟩), .pointer (some ⟨p, 0, none⟩), .pointer (some ⟨p, 0, none⟩), .pointer (some ⟨p, 2, none⟩), .int .i64 (count : Int), .pointer (some ⟨p, 0, none⟩), .pointer (some ⟨p, 0, none⟩), .pointer (some ⟨p, 5, none⟩), .int .i64 (at' : Int), .int .i64 ((count : Int) - (at' : Int)), .bool false, .slice ao b.length cap, .func (.func 143) #[] #[.pointer (some ⟨w.heap.size + 1 + 1 + 1, 0, none⟩), .pointer (some ⟨w.heap.size + 1 + 1 + 1 + 1, 0, none⟩)], chunkV ao b.length 511 x.1, undef, undef, undef, undef, undef, undef, undef, undef, undef, undef, undef, undef, undef, undef, undef, undef, undef, undef, undef, undef, undef, undef, undef, undef, undef, undef, undef, undef, undef, undef, undef, undef, undef, undef, undef, undef, undef, undef, undef, undef, undef, undef, undef, undef, undef, undef, undef, undef, undef, undef, undef, undef, undef, undef, undef, undef, undef, undef, undef, undef, undef, undef, undef, undef, undef, undef, undef, undef, undef, undef, undef, undef, undef, undef, undef, undef], defers := [] })
    (fun x a' _ X Y row hs hg hr => hs)
    ?assign ?body ?done ?stop
  case stop => intro _ _ _ _ _ _ h; exact h.elim
  case assign =>
    rintro l pre x W K hI hK
    gi_wp2
    exact hK _ _ ((KeepsOthers.refl _).from _) ⟨rfl, rfl⟩ hI rfl
  case done =>
    rintro Dd xs W hDd hxs hI hKD
    obtain ⟨Dk, hwr, hdk, htk, hkb⟩ := hI
    have hwr2 : St.writesD ((first + at' + 1 : Nat) : Int) ((St.chunks 511 b).map fun q => St.pad (68 :: q)) D = (.ok (), Dk) := by
      rw [chunks_range (by omega) b.length b (Nat.le_refl _), List.map_map]
      have hxs' : xs.map Subtype.val = List.range ((b.length + 511 - 1) / 511) := hxs
      rw [hxs'] at hwr
      exact hwr
    have HWR := Lib.hid hwr2
    have hwm : ∀ k, k < w.heap.size + 1 + 1 → ¬ M k → ¬ (M k ∨ k = w.heap.size + 1 + 1) := fun k h1 h2 h => by rcases h with h | h; exact h2 h; omega
    have hpl := lt_of_block HP.out
    have hpW : W.heap[p]? = some (logO g ⟨first, count, age, next, at'⟩) := (htk.block p (lt_of_block HP3.out) (hwm p (by omega) HMP.out)).trans HP3.out
    have hlW : W.heap[w.heap.size]? = some (.cells #[.pointer (some ⟨p, 0, none⟩)] 105 (0, 0)) := (htk.block _ (lt_of_block HX3.out) (hwm _ (by omega) (fun h => by have := HMM.out _ h; omega))).trans HX3.out
    have hyW : W.heap[w.heap.size + 1]? = some (.cells #[.int .i64 0] 29 (0, 0)) := (htk.block _ (lt_of_block HY3.out) (hwm _ (by omega) (fun h => by have := HMM.out _ h; omega))).trans HY3.out
    have hdc := hdk.cells.at_
    obtain ⟨M1, hM1⟩ : ∃ M1 : Nat → Prop, M1 = fun k => Gro M W3.heap.size k ∧ (k = gm ∨ IsCells W k) := ⟨_, rfl⟩
    obtain ⟨R1, hR1⟩ : ∃ R1 : Nat → Prop, R1 = fun k => Gro R W3.heap.size k ∧ IsCells W k := ⟨_, rfl⟩
    have hm1 : ∀ k, M1 k → M k ∨ W3.heap.size ≤ k := fun k hk => by rw [hM1] at hk; exact hk.1
    have hr1 : ∀ k, R1 k → R k ∨ W3.heap.size ≤ k := fun k hk => by rw [hR1] at hk; exact hk.1
    have hmD : ¬ M1 Dd := fun hk => by
      rw [hM1] at hk
      rcases hk.2 with h | ⟨c, t, fz, hh⟩
      · have := HGM.out; omega
      · rw [hKD] at hh; cases hh
    have hrD : ¬ R1 Dd := fun hk => by
      rw [hR1] at hk
      obtain ⟨c, t, fz, hh⟩ := hk.2
      rw [hKD] at hh
      cases hh
    have HRD := Lib.hid hrD
    clear hrD
    rw [← hM1, ← hR1] at hdc
    have hmp : ∀ k, k < W3.heap.size → ¬ M k → ¬ M1 k := fun k h1 h2 h => by rcases hm1 k h with h | h; exact h2 h; omega
    have hDl : Dd < W.heap.size := lt_of_block hKD
    have hlive := live_writes _ _ _ _ HLV.out.1 HLV.out.2 hwr2
    have hwl := writesD_waits _ _ _ _ hwr2
    have hcn := chunks_range (k := 511) (by omega) b.length b (Nat.le_refl _)
    have hwl2 : Dk.waits.length ≤ 900000 ∧ Dk.last.length = D.last.length := by
      rw [List.length_map, hcn, List.length_map, List.length_range] at hwl
      have := HWA.out
      exact ⟨by omega, hwl.2⟩
    have hbar := live_barrier hlive.1 hlive.2
    have HBA := Lib.hid (dkBarrier_any hdc (by omega))
    obtain ⟨Db, hdb⟩ : ∃ Db, Dk.barrier = (Db, 0) := ⟨Dk.barrier.1, by rw [← hbar.1]⟩
    rw [hdb] at HBA hbar
    have hbw := barrier_waits Dk
    rw [hdb] at hbw
    have HDB := Lib.hid hdb
    have HLB := Lib.hid hbar.2
    have HBW2 : Hid (Db.waits.length ≤ 900000 ∧ Db.last.length = D.last.length) := ⟨Nat.le_trans hbw.1 hwl2.1, hbw.2.trans hwl2.2⟩
    have HPW := Lib.hid hpW
    have HLW := Lib.hid hlW
    have HYW := Lib.hid hyW
    have HTK := Lib.hid htk
    have HM1 := Lib.hid hm1
    have HR1 := Lib.hid hr1
    have HMD := Lib.hid hmD
    have HMP1 := Lib.hid hmp
    have HKD := Lib.hid hKD
    have HDL := Lib.hid hDl
    have HDD := Lib.hid hDd
    obtain ⟨c0, c1, c2, c3, c4, c5, cf⟩ := lgfull_cells hpW
    obtain ⟨x0, _⟩ := wl_cells1 hlW
    clear hwr hdk htk hkb hwr2 hwm hpW hlW hyW hdc hM1 hR1 hm1 hr1 hmD hmp hDl hlive hwl hcn hwl2 hbar hdb hbw hKD hDd hxs
    gi_wp2_with (refine ⟨trivial, ?_⟩; gi_at_call 97; refine (callsIn_wide.2 HBA.out).mono ?_; rintro e wA ⟨he, hdA, htA⟩; subst he; have HDA := Lib.hid hdA; have HTA := Lib.hid htA; clear hdA htA HBA)
    have hpA : wA.heap[p]? = some (logO g ⟨first, count, age, next, at'⟩) := (HTA.out.block p (lt_of_block HPW.out) (HMP1.out _ (by omega) HMP.out)).trans HPW.out
    have hlA : wA.heap[w.heap.size]? = some (.cells #[.pointer (some ⟨p, 0, none⟩)] 105 (0, 0)) := (HTA.out.block _ (lt_of_block HLW.out) (HMP1.out _ (by omega) (fun h => by have := HMM.out _ h; omega))).trans HLW.out
    have hyA : wA.heap[w.heap.size + 1]? = some (.cells #[.int .i64 0] 29 (0, 0)) := (HTA.out.block _ (lt_of_block HYW.out) (HMP1.out _ (by omega) (fun h => by have := HMM.out _ h; omega))).trans HYW.out
    have hkA : wA.heap[Dd]? = some (.deferred (some [])) := (HTA.out.block _ HDL.out HMD.out).trans HKD.out
    have htA3 : Turn (fun k => M k ∨ k = w.heap.size + 1 + 1) W3 wA := HTK.out.trans HTA.out (fun k hk => by rcases HM1.out k hk with h | h; exact .inl (.inl h); exact .inr h)
    have hrA := HROW.out wA htA3
    have hhA : Half wA := (HT.out.below HB3.out).turn htA3 (fun h => by rcases h with h | h; exact HG.out h; have := HT.out.lt; omega)
    have hss : ∀ X, Below wA.heap.size wA X → X.cell? ⟨p, 0, none⟩ = some (.pointer (some ⟨g, 0, none⟩)) ∧ X.cell? ⟨p, 1, none⟩ = some (.int .i64 first) ∧ X.cell? ⟨p, 2, none⟩ = some (.int .i64 count) ∧ X.cell? ⟨p, 3, none⟩ = some (.int .i64 age) ∧ X.cell? ⟨p, 4, none⟩ = some (.int .i64 next) ∧ X.cell? ⟨p, 5, none⟩ = some (.int .i64 at') ∧ X.cell? ⟨w.heap.size, 0, none⟩ = some (.pointer (some ⟨p, 0, none⟩)) := fun X hX => by
      have e1 := lgfull_cells ((hX.block p (lt_of_block hpA)).trans hpA)
      exact ⟨e1.1, e1.2.1, e1.2.2.1, e1.2.2.2.1, e1.2.2.2.2.1, e1.2.2.2.2.2.1, (wl_cells1 ((hX.block _ (lt_of_block hlA)).trans hlA)).1⟩
    have hwz : wA.heap.size ≥ W.heap.size := HTA.out.size
    have hdA := HDA.out
    have hnX : ∀ k, k < W.heap.size → ¬ M1 k → ¬ Gro M1 W.heap.size k := fun k h1 h2 h => by rcases h with h | h; exact h2 h; omega
    obtain ⟨y, hy⟩ : ∃ y, Db.write ((first : Int) + (at' : Int)) (St.pad (St.logFirst age next b)) = y := ⟨_, rfl⟩
    have hfl : (St.logFirst age next b).length ≤ 512 := logFirst_len (by omega) (by omega) (by omega)
    have hyw := live_write (i := (first : Int) + (at' : Int)) (b := St.pad (St.logFirst age next b)) HLB.out.1 HLB.out.2 (by rw [HBW2.out.2]; have h1 := HLEN.out; have h2 := HND.out; unfold St.need at h2; omega) (St.pad_len hfl)
    rw [hy] at hyw
    obtain ⟨Dl, ye⟩ := y
    obtain ⟨rfl, hyl⟩ : ye = 0 ∧ (Dl.off = false ∧ Dl.left = -1) := ⟨hyw.1, hyw.2⟩
    have HY := Lib.hid hy
    have HYL := Lib.hid hyl
    have HFL := Lib.hid hfl
    have HSS := Lib.hid hss
    have HPA := Lib.hid hpA
    have HLA := Lib.hid hlA
    have HYA := Lib.hid hyA
    have HKA := Lib.hid hkA
    have HTA3 := Lib.hid htA3
    have HRA := Lib.hid hrA
    have HHA := Lib.hid hhA
    have HNX := Lib.hid hnX
    have HWZ := Lib.hid hwz
    clear hpA hlA hyA hkA htA3 hrA hhA hss hdA hy hyw hyl hfl hnX hwz c0 c1 c2 c3 c4 c5 cf x0
    refine wpIn_wide.2 ?_
    go_region_held3 (fun X => X.cell? ⟨p, 0, none⟩ = some (.pointer (some ⟨g, 0, none⟩)) ∧ X.cell? ⟨p, 1, none⟩ = some (.int .i64 first) ∧ X.cell? ⟨p, 2, none⟩ = some (.int .i64 count) ∧ X.cell? ⟨p, 3, none⟩ = some (.int .i64 age) ∧ X.cell? ⟨p, 4, none⟩ = some (.int .i64 next) ∧ X.cell? ⟨p, 5, none⟩ = some (.int .i64 at') ∧ X.cell? ⟨w.heap.size, 0, none⟩ = some (.pointer (some ⟨p, 0, none⟩)))
      (first | exact HSS.out _ (Below.refl _ _).drew | exact HSS.out _ HBB.out | exact ⟨E7.out.1, E7.out.2.1, E7.out.2.2.1, E7.out.2.2.2.1, E7.out.2.2.2.2.1, E7.out.2.2.2.2.2.1, X7.out.1⟩)
      (first
        | (go_at_call 98; refine (walFirst_any age next (by omega) (by omega) (HRA.out.below (Below.refl _ _).drew) (by omega) (HHA.out.below (Below.refl _ _).drew)).mono ?_; rintro e wB ⟨vB, rfl, hrB, hbB⟩; obtain ⟨aB, cB, rfl, _⟩ := hrB.form; have HRB := Lib.hid hrB; have HBB : Hid (Below wA.heap.size wA wB) := (Below.refl _ _).drew.trans hbB; clear hrB hbB)
        | (go_at_call 96; refine (walWrite_any (HDA.out.below HBB.out) (first : Int) (count : Int) (at' : Int) (by omega) (by omega) _ (St.logFirst age next b) (BytesIn.row HRB.out) HFL.out (by have := HBW2.out.1; omega)).mono ?_; rw [HY.out]; rintro e wC ⟨he, hdC, htC⟩; subst he; have hpC := (htC.block p (Nat.lt_of_lt_of_le (lt_of_block HPA.out) HBB.out.size) (HNX.out _ (lt_of_block HPW.out) (HMP1.out _ (by omega) HMP.out))).trans ((HBB.out.block p (lt_of_block HPA.out)).trans HPA.out); have hlC := (htC.block w.heap.size (Nat.lt_of_lt_of_le (lt_of_block HLA.out) HBB.out.size) (HNX.out _ (lt_of_block HLW.out) (HMP1.out _ (by omega) (fun h => by have := HMM.out _ h; omega)))).trans ((HBB.out.block _ (lt_of_block HLA.out)).trans HLA.out); have E7 := Lib.hid (lgfull_cells hpC); have X7 := Lib.hid (wl_cells1 hlC); have HPC := Lib.hid hpC; have HLC := Lib.hid hlC; have HDC := Lib.hid hdC; have HTC := Lib.hid htC; clear hdC htC hpC hlC))
    have hzB := HBB.out.size
    have hdC : DkAt wC g Dl (Gro M1 W.heap.size) (Gro R1 W.heap.size) := HDC.out.mono (fun _ _ h => h.gro (by have := HWZ.out; omega)) (fun _ _ h => h.gro (by have := HWZ.out; omega))
    have hyC : wC.heap[w.heap.size + 1]? = some (.cells #[.int .i64 0] 29 (0, 0)) := (HTC.out.block _ (Nat.lt_of_lt_of_le (lt_of_block HYA.out) hzB) (HNX.out _ (lt_of_block HYW.out) (HMP1.out _ (by omega) (fun h => by have := HMM.out _ h; omega)))).trans ((HBB.out.block _ (lt_of_block HYA.out)).trans HYA.out)
    have hkC : wC.heap[Dd]? = some (.deferred (some [])) := (HTC.out.block _ (Nat.lt_of_lt_of_le (lt_of_block HKA.out) hzB) (HNX.out _ HDL.out HMD.out)).trans ((HBB.out.block _ (lt_of_block HKA.out)).trans HKA.out)
    have hww := write_waits Db ((first : Int) + (at' : Int)) (St.pad (St.logFirst age next b))
    rw [HY.out] at hww
    have hbr := live_barrier HYL.out.1 HYL.out.2
    have HB2A := Lib.hid (dkBarrier_any hdC (by have := HBW2.out.1; dsimp only at hww; omega))
    obtain ⟨De, hde⟩ : ∃ De, Dl.barrier = (De, 0) := ⟨Dl.barrier.1, by rw [← hbr.1]⟩
    rw [hde] at HB2A
    have HDE := Lib.hid hde
    have HYC := Lib.hid hyC
    have HKC := Lib.hid hkC
    have HDC2 := Lib.hid hdC
    obtain ⟨c0, c1, c2, c3, c4, c5, cf⟩ := E7.out
    obtain ⟨x0, _⟩ := X7.out
    clear hzB hdC hyC hkC hww hbr hde
    gi_wp2_with (refine ⟨trivial, ?_⟩; gi_at_call 97; refine (callsIn_wide.2 HB2A.out).mono ?_; rintro e wE ⟨he, hdE, htE⟩; subst he; have HDEE := Lib.hid hdE; have HTE := Lib.hid htE; clear hdE htE HB2A)
    have hpE := (HTE.out.block p (lt_of_block HPC.out) (HNX.out _ (lt_of_block HPW.out) (HMP1.out _ (by omega) HMP.out))).trans HPC.out
    have hlE := (HTE.out.block w.heap.size (lt_of_block HLC.out) (HNX.out _ (lt_of_block HLW.out) (HMP1.out _ (by omega) (fun h => by have := HMM.out _ h; omega)))).trans HLC.out
    have hyE := (HTE.out.block (w.heap.size + 1) (lt_of_block HYC.out) (HNX.out _ (lt_of_block HYW.out) (HMP1.out _ (by omega) (fun h => by have := HMM.out _ h; omega)))).trans HYC.out
    have hkE := (HTE.out.block Dd (lt_of_block HKC.out) (HNX.out _ HDL.out HMD.out)).trans HKC.out
    clear c0 c1 c2 c3 c4 c5 cf x0
    obtain ⟨c0, c1, c2, c3, c4, c5, cf⟩ := lgfull_cells hpE
    obtain ⟨x0, _⟩ := wl_cells1 hlE
    obtain ⟨y0, yf⟩ := wl_cells1 hyE
    have HPE := Lib.hid hpE
    have HYE := Lib.hid hyE
    have HKE := Lib.hid hkE
    have HLE := Lib.hid hlE
    have hwn : IntKind.i64.wrap ((at' : Int) + (nd : Int)) = (at' : Int) + (nd : Int) := by rw [IntKind.wrap_i64]; omega
    clear hpE hlE hyE hkE
    refine wpIn_wide.2 ?_
    refine wp_noPanic ?_
    refine wp_region_lastL (S := fun X => X.cell? ⟨p, 5, none⟩ = some (.int .i64 at') ∧ X.cell? ⟨w.heap.size, 0, none⟩ = some (.pointer (some ⟨p, 0, none⟩)) ∧ X.frozen? ⟨p, 5, none⟩ = false) (by kernel_rfl) (by simp only [butLast]; rfl) (by simp only [lastOf]; rfl) (by kernel_rfl) (by kernel_rfl) ?_ (fun hHeld => ?_)
    focus exact ⟨(lgfull_cells (show wE.drew.heap[p]? = _ from HPE.out)).2.2.2.2.2.1, (wl_cells1 (show wE.drew.heap[w.heap.size]? = _ from HLE.out)).1, (lgfull_cells (show wE.drew.heap[p]? = _ from HPE.out)).2.2.2.2.2.2 5⟩
    try simp only [List.size_toArray, List.length_cons, List.length_nil]
    refine wpAnyH_take (i := 0) (v := ?_) rfl (by kernel_rfl) (by kernel_rfl) (by kernel_rfl) (fun _ _ _ h => h) (Or.inl ⟨by rfl, ?_⟩) (by assumption) ?_
    rotate_left
    focus (intro w hSw; (try dsimp only at hSw); go_simp; try with_reducible rfl)
    try simp only [Act.put, List.getElem_toArray, List.getElem_cons_zero, List.getElem_cons_succ, List.setIfInBounds_toArray, List.set_cons_zero, List.set_cons_succ, Nat.zero_add]
    refine wpAnyH_take (i := 1) (v := ?_) rfl (by kernel_rfl) (by kernel_rfl) (by kernel_rfl) (fun _ _ _ h => h) (Or.inl ⟨by rfl, ?_⟩) (by assumption) ?_
    rotate_left
    focus (intro w hSw; (try dsimp only at hSw); go_simp; try with_reducible rfl)
    try simp only [Act.put, List.getElem_toArray, List.getElem_cons_zero, List.getElem_cons_succ, List.setIfInBounds_toArray, List.set_cons_zero, List.set_cons_succ, Nat.zero_add]
    refine wpAnyH_take (i := 2) (v := ?_) rfl (by kernel_rfl) (by kernel_rfl) (by kernel_rfl) (fun _ _ _ h => h) (Or.inl ⟨by rfl, ?_⟩) (by assumption) ?_
    rotate_left
    focus (intro w hSw; (try dsimp only at hSw); go_simp; try with_reducible rfl)
    try simp only [Act.put, List.getElem_toArray, List.getElem_cons_zero, List.getElem_cons_succ, List.setIfInBounds_toArray, List.set_cons_zero, List.set_cons_succ, Nat.zero_add]
    refine wpAnyH_take (i := 3) (v := ?_) rfl (by kernel_rfl) (by kernel_rfl) (by kernel_rfl) (fun _ _ _ h => h) (Or.inl ⟨by rfl, ?_⟩) (by assumption) ?_
    rotate_left
    focus (intro w hSw; (try dsimp only at hSw); go_simp; try with_reducible rfl)
    try simp only [Act.put, List.getElem_toArray, List.getElem_cons_zero, List.getElem_cons_succ, List.setIfInBounds_toArray, List.set_cons_zero, List.set_cons_succ, Nat.zero_add]
    refine wpAnyH_take (i := 4) (v := ?_) rfl (by kernel_rfl) (by kernel_rfl) (by kernel_rfl) (fun _ _ _ h => h) (Or.inl ⟨by rfl, ?_⟩) (by assumption) ?_
    rotate_left
    focus (intro w hSw; (try dsimp only at hSw); go_simp; try with_reducible rfl)
    try simp only [Act.put, List.getElem_toArray, List.getElem_cons_zero, List.getElem_cons_succ, List.setIfInBounds_toArray, List.set_cons_zero, List.set_cons_succ, Nat.zero_add]
    refine wpAnyH_take (i := 5) (v := ?_) rfl (by kernel_rfl) (by kernel_rfl) (by kernel_rfl) (fun _ _ _ h => h) (Or.inl ⟨by rfl, ?_⟩) (by assumption) ?_
    rotate_left
    focus (intro w hSw; (try dsimp only at hSw); go_simp; try with_reducible rfl)
    try simp only [Act.put, List.getElem_toArray, List.getElem_cons_zero, List.getElem_cons_succ, List.setIfInBounds_toArray, List.set_cons_zero, List.set_cons_succ, Nat.zero_add]
    refine wpAnyH_ready (rs := [6]) (by kernel_rfl) (by simp) ?_
    refine (AllReadyH.cons rfl (fun K' hK => ?_) AllReadyH.nil)
    refine step_callw (by rfl) 94 #[.int .i64 (b.length : Int)] ?_ (HNE.out _) ?_
    go_simp
    rintro e wF ⟨rfl, rfl⟩
    refine ⟨.int .i64 nd, rfl, ?_⟩
    refine hK.out _ _ (hHeld) (fun hHeld => ?_)
    clear hK K'
    try simp only [Act.put, List.getElem_toArray, List.getElem_cons_zero, List.getElem_cons_succ, List.setIfInBounds_toArray, List.set_cons_zero, List.set_cons_succ, Nat.zero_add]
    refine wpAnyH_take (i := 7) (v := ?_) rfl (by kernel_rfl) (by kernel_rfl) (by kernel_rfl) (fun _ _ _ h => h) (Or.inl ⟨by rfl, ?_⟩) (by assumption) ?_
    rotate_left
    focus (intro w hSw; (try dsimp only at hSw); go_simp; try with_reducible rfl)
    try simp only [Act.put, List.getElem_toArray, List.getElem_cons_zero, List.getElem_cons_succ, List.setIfInBounds_toArray, List.set_cons_zero, List.set_cons_succ, Nat.zero_add]
    refine wpAnyH_take (i := 8) (v := ?_) rfl (by kernel_rfl) (by kernel_rfl) (by kernel_rfl) (fun _ _ _ h => h) (Or.inl ⟨by rfl, ?_⟩) (by assumption) ?_
    rotate_left
    focus (intro w hSw; (try dsimp only at hSw); go_simp; try with_reducible rfl)
    try simp only [Act.put, List.getElem_toArray, List.getElem_cons_zero, List.getElem_cons_succ, List.setIfInBounds_toArray, List.set_cons_zero, List.set_cons_succ, Nat.zero_add]
    refine wpAnyH_take (i := 9) (v := ?_) rfl (by kernel_rfl) (by kernel_rfl) (by kernel_rfl) (fun _ _ _ h => h) (Or.inl ⟨by rfl, ?_⟩) (by assumption) ?_
    rotate_left
    focus (intro w hSw; (try dsimp only at hSw); go_simp; try with_reducible rfl)
    try simp only [Act.put, List.getElem_toArray, List.getElem_cons_zero, List.getElem_cons_succ, List.setIfInBounds_toArray, List.set_cons_zero, List.set_cons_succ, Nat.zero_add]
    refine wpAnyH_done (by kernel_rfl) ?_ _
    show Oper.wp _ _ _ _ _ _
    go_simp
    dsimp only [noPanic]
    gi_wp2
    have hap : St.Lg.append ⟨first, count, age, next, at'⟩ b D = (.ok ⟨first, count, age, next + 1, at' + nd⟩, De) := by
      unfold St.Lg.append
      rw [if_neg (by have := HL.out; omega)]
      dsimp only
      rw [if_neg (by have := HND.out; omega), andThen_ok HWR.out, andThen_ok (barrierD_ok (by rw [HDB.out])), HDB.out, andThen_ok (show St.writeD ((first + at' : Nat) : Int) (St.pad (St.logFirst age next b)) Db = (.ok (), Dl) from by unfold St.writeD; rw [show ((first + at' : Nat) : Int) = (first : Int) + (at' : Int) by push_cast; rfl, HY.out]; rfl), andThen_ok (barrierD_ok (by rw [HDE.out])), HDE.out, HNDQ.out]
      rfl
    rw [hap]
    have hpl := lt_of_block HP.out
    have hb1 := (dk_set (o := 4) (u := .int .i64 (next + 1)) (dk_set (o := 5) (u := .int .i64 ((at' : Int) + (nd : Int))) HPE.out)).trans rfl
    have hb1 : ((wE.setCell ⟨p, 5, none⟩ (.int .i64 ((at' : Int) + (nd : Int)))).setCell ⟨p, 4, none⟩ (.int .i64 (next + 1))).heap[p]? = some (logO g ⟨first, count, age, next + 1, at' + nd⟩) := by
      refine hb1.trans ?_
      show some (Obj.cells #[.pointer (some ⟨g, 0, none⟩), .int .i64 (first : Int), .int .i64 (count : Int), .int .i64 age, .int .i64 (next + 1), .int .i64 ((at' : Int) + (nd : Int))] _ _) = some (Obj.cells #[.pointer (some ⟨g, 0, none⟩), .int .i64 (first : Int), .int .i64 (count : Int), .int .i64 age, .int .i64 (next + 1), .int .i64 ((at' + nd : Nat) : Int)] _ _)
      rw [show ((at' + nd : Nat) : Int) = (at' : Int) + (nd : Int) by push_cast; rfl]
    have hc1 : Chg [p] wE ((wE.setCell ⟨p, 5, none⟩ (.int .i64 ((at' : Int) + (nd : Int)))).setCell ⟨p, 4, none⟩ (.int .i64 (next + 1))) := (chg_set _ _ _ _).then1 (chg_set _ _ _ _)
    generalize ((wE.setCell ⟨p, 5, none⟩ (.int .i64 ((at' : Int) + (nd : Int)))).setCell ⟨p, 4, none⟩ (.int .i64 (next + 1))) = wG at hb1 hc1 ⊢
    have hyG : wG.heap[w.heap.size + 1]? = some (.cells #[.int .i64 0] 29 (0, 0)) := (hc1.block _ (lt_of_block HYE.out) (by simp; omega)).trans HYE.out
    have hkG : wG.heap[Dd]? = some (.deferred (some [])) := (hc1.block _ (lt_of_block HKE.out) (by have := HDD.out; simp; omega)).trans HKE.out
    have hc2 : Chg [w.heap.size + 1] wG (wG.setCell ⟨w.heap.size + 1, 0, none⟩ (.int .i64 0)).drew := (chg_set _ _ _ _).drewN 1
    have hyH := (dk_set (o := 0) (u := .int .i64 0) hyG).trans rfl
    have hyH : (wG.setCell ⟨w.heap.size + 1, 0, none⟩ (.int .i64 0)).drew.heap[w.heap.size + 1]? = some (.cells #[.int .i64 0] 29 (0, 0)) := hyH
    generalize (wG.setCell ⟨w.heap.size + 1, 0, none⟩ (.int .i64 0)).drew = wH at hc2 hyH ⊢
    have hpH := (hc2.block p (lt_of_block hb1) (by simp; omega)).trans hb1
    have hkH := (hc2.block Dd (lt_of_block hkG) (by have := HDD.out; simp; omega)).trans hkG
    have hcd : Chg [Dd] wH (wH.putObj Dd (.deferred none)) := (Chg.refl _ wH).grown (grownBy_putObj' wH Dd _) (fun k hk => by cases hk; exact .inl (by simp))
    have hDz := HDD.out
    obtain ⟨y0, _⟩ := wl_cells1 ((hcd.block _ (lt_of_block hyH) (by simp; omega)).trans hyH)
    have tG : Turn (fun k => k = p) wE wG := Turn.of_chg hc1 (fun k hk => .inl (by simpa using hk))
    have tH : Turn (fun k => k = w.heap.size + 1) wG wH := Turn.of_chg hc2 (fun k hk => .inl (by simpa using hk))
    have tD : Turn (fun k => k = Dd) wH (wH.putObj Dd (.deferred none)) := Turn.of_chg hcd (fun k hk => .inl (by simpa using hk))
    have zA := HTA.out.size
    have zB := HBB.out.size
    have zC := HTC.out.size
    have zW : W3.heap.size ≤ W.heap.size := HTK.out.size
    have hX : ∀ k, Gro (Gro M1 W.heap.size) wC.heap.size k → (k ≠ p ∧ k ≠ w.heap.size + 1 ∧ k ≠ Dd) ∧ (M k ∨ W3.heap.size ≤ k) := fun k hk => by
      have h1 : ∀ j, j < W.heap.size → ¬ M1 j → ¬ Gro (Gro M1 W.heap.size) wC.heap.size j := fun j a b h => by
        rcases h with h | h
        · exact HNX.out j a b h
        · have := HWZ.out; omega
      refine ⟨⟨fun e => h1 p (lt_of_block HPW.out) (HMP1.out _ (by omega) HMP.out) (e ▸ hk), fun e => h1 _ (lt_of_block HYW.out) (HMP1.out _ (by omega) (fun h => by have := HMM.out _ h; omega)) (e ▸ hk), fun e => h1 _ HDL.out HMD.out (e ▸ hk)⟩, ?_⟩
      rcases hk with (h | h) | h
      · exact HM1.out k h
      · exact .inr (by omega)
      · exact .inr (by have := HWZ.out; omega)
    have hY : ∀ k, Gro (Gro R1 W.heap.size) wC.heap.size k → (k ≠ p ∧ k ≠ w.heap.size + 1 ∧ k ≠ Dd) ∧ (R k ∨ W3.heap.size ≤ k) := fun k hk => by
      have h1 : ∀ j, j < W.heap.size → ¬ R1 j → ¬ Gro (Gro R1 W.heap.size) wC.heap.size j := fun j a b h => by
        rcases h with (h | h) | h
        · exact b h
        · omega
        · have := HWZ.out; omega
      have h2 : ∀ j, j < W3.heap.size → ¬ R j → ¬ R1 j := fun j a b h => by
        rcases HR1.out j h with h | h
        · exact b h
        · omega
      refine ⟨⟨fun e => h1 p (lt_of_block HPW.out) (h2 _ (by omega) hRp) (e ▸ hk), fun e => h1 _ (lt_of_block HYW.out) (h2 _ (by omega) (fun h => by have := HRR.out _ h; omega)) (e ▸ hk), fun e => h1 _ HDL.out HRD.out (e ▸ hk)⟩, ?_⟩
      rcases hk with (h | h) | h
      · exact HR1.out k h
      · exact .inr (by omega)
      · exact .inr (by have := HWZ.out; omega)
    refine ⟨by simp, .inl ⟨_, _, rfl, run_takeDeferred hkH, ?_⟩⟩
    refine ⟨.int .i64 0, by simp [results, Tryz.results47, go_sem, y0], ?_⟩
    refine ⟨rfl, (((HDEE.out.turn tG (fun k hk e => (hX k hk).1.1 e) (fun k hk e => (hY k hk).1.1 e)).turn tH (fun k hk e => (hX k hk).1.2.1 e) (fun k hk e => (hY k hk).1.2.1 e)).turn tD (fun k hk e => (hX k hk).1.2.2 e) (fun k hk e => (hY k hk).1.2.2 e)).mono (fun k _ hk => (hX k hk).2.imp_right (fun h => by omega)) (fun k _ hk => (hY k hk).2.imp_right (fun h => by omega)), (hcd.block p (lt_of_block hpH) (by simp; omega)).trans hpH, ?_⟩
    have t0 : Turn (fun k => M k ∨ k = p) w W3 := Turn.of_below HB3.out
    have hz3 : w.heap.size ≤ W3.heap.size := by omega
    have t1 : Turn (fun k => M k ∨ k = p) w W := t0.trans HTK.out (fun k hk => by rcases hk with h | h; exact .inl (.inl h); exact .inr (by omega))
    have t2 : Turn (fun k => M k ∨ k = p) w wA := t1.trans HTA.out (fun k hk => by rcases HM1.out k hk with h | h; exact .inl (.inl h); exact .inr (by omega))
    have t3 : Turn (fun k => M k ∨ k = p) w wC := (t2.thenBelow HBB.out).trans HTC.out (fun k hk => by
      rcases (hX k (.inl hk)).2 with h | h
      · exact .inl (.inl h)
      · exact .inr (by omega))
    have t4 : Turn (fun k => M k ∨ k = p) w wE := t3.trans HTE.out (fun k hk => by
      rcases (hX k (.inl hk)).2 with h | h
      · exact .inl (.inl h)
      · exact .inr (by omega))
    exact ((t4.trans tG (fun k hk => .inl (.inr hk))).trans tH (fun k hk => .inr (by omega))).trans tD (fun k hk => .inr (by omega))
  case body =>
    rintro l pre x a' W hl ⟨r, hr⟩ hI rfl hlt
    obtain ⟨Dk, hwr, hdk, htk, hkb⟩ := hI
    have HWR := Lib.hid hwr
    have HDK := Lib.hid hdk
    have HTK := Lib.hid htk
    have HKB := Lib.hid hkb
    have HLL := Lib.hid hl
    have HX := x.2
    obtain ⟨a6, ec, hcb⟩ := chunkV_form HBY.out 511 x.1 (by omega)
    have hpl : ¬ (M p ∨ p = w.heap.size + 1 + 1) := fun h => by have := lt_of_block HP.out; rcases h with h | h; exact HMP.out h; omega
    have hkm : ¬ M (w.heap.size + 1 + 1) := fun h => by have := HMM.out _ h; omega
    have hwm : ¬ (M w.heap.size ∨ w.heap.size = w.heap.size + 1 + 1) := fun h => by rcases h with h | h; have := HMM.out _ h; omega; omega
    have hpw : W.heap[p]? = some (logO g ⟨first, count, age, next, at'⟩) := (htk.block p (lt_of_block HP3.out) hpl).trans HP3.out
    have hlw : W.heap[w.heap.size]? = some (.cells #[.pointer (some ⟨p, 0, none⟩)] 105 (0, 0)) := (htk.block _ (lt_of_block HX3.out) hwm).trans HX3.out
    have HPW := Lib.hid hpw
    have HLW := Lib.hid hlw
    obtain ⟨m, hm⟩ : ∃ m, min 511 (b.length - x.1 * 511) = m := ⟨_, rfl⟩
    rw [hm] at ec
    rw [ec]
    have HCBW : Hid (∀ X, Turn (fun k => k = w.heap.size + 1 + 1) W X → BytesIn X (.slice a6 m m) ((b.drop (x.1 * 511)).take 511)) := fun X hX => by
      obtain ⟨a6', ec', hcb'⟩ := chunkV_form (BytesIn.row (HROW.out X (HTK.out.trans hX (fun k hk => .inl (.inr hk))))) 511 x.1 (by omega)
      rw [hm] at ec' hcb'
      rw [ec] at ec'
      cases ec'
      exact hcb'
    obtain ⟨k0, kf⟩ := wl_cells1 hkb
    rw [List.length_map] at k0
    have HPLE : Hid (pre.length < (b.length + 511 - 1) / 511 ∧ pre.length ≤ 100000) := ⟨hlt, by omega⟩
    have hple : (pre.length : Int) ≤ 100000 := by omega
    clear hwr hdk htk hkb hpw hlw hl hpl hwm
    gi_wp2
    have hc5 : Chg [w.heap.size + 1 + 1] W (W.setCell ⟨w.heap.size + 1 + 1, 0, none⟩ (.int .i64 ((pre.length : Int) + 1))) := chg_set _ _ _ _
    have hb5 := (dk_set (o := 0) (u := .int .i64 ((pre.length : Int) + 1)) HKB.out).trans rfl
    generalize W.setCell ⟨w.heap.size + 1 + 1, 0, none⟩ (.int .i64 ((pre.length : Int) + 1)) = W5 at hc5 hb5 ⊢
    replace hb5 : W5.heap[w.heap.size + 1 + 1]? = some (.cells #[.int .i64 ((pre.length : Int) + 1)] 3 (0, 0)) := hb5
    have ht5 : Turn (fun k => k = w.heap.size + 1 + 1) W W5 := Turn.of_chg hc5 (fun k hk => .inl (by simpa using hk))
    have hpne : p ≠ w.heap.size + 1 + 1 := by have := lt_of_block HP.out; omega
    have hp5 : W5.heap[p]? = some (logO g ⟨first, count, age, next, at'⟩) := (ht5.block p (lt_of_block HPW.out) hpne).trans HPW.out
    have hl5 : W5.heap[w.heap.size]? = some (.cells #[.pointer (some ⟨p, 0, none⟩)] 105 (0, 0)) := (ht5.block _ (lt_of_block HLW.out) (by omega)).trans HLW.out
    have hss : ∀ X, Below W5.heap.size W5 X → X.cell? ⟨p, 0, none⟩ = some (.pointer (some ⟨g, 0, none⟩)) ∧ X.cell? ⟨p, 1, none⟩ = some (.int .i64 first) ∧ X.cell? ⟨p, 2, none⟩ = some (.int .i64 count) ∧ X.cell? ⟨p, 5, none⟩ = some (.int .i64 at') ∧ X.cell? ⟨w.heap.size, 0, none⟩ = some (.pointer (some ⟨p, 0, none⟩)) ∧ X.cell? ⟨w.heap.size + 1 + 1, 0, none⟩ = some (.int .i64 ((pre.length : Int) + 1)) := fun X hX => by
      have e1 := lgfull_cells ((hX.block p (lt_of_block hp5)).trans hp5)
      exact ⟨e1.1, e1.2.1, e1.2.2.1, e1.2.2.2.2.2.1, (wl_cells1 ((hX.block _ (lt_of_block hl5)).trans hl5)).1, (wl_cells1 ((hX.block _ (lt_of_block hb5)).trans hb5)).1⟩
    have HSS := Lib.hid hss
    have hdk5 : DkAtM W5 g gm Dk (fun k => Gro M W3.heap.size k ∧ (k = gm ∨ IsCells W k)) (fun k => Gro R W3.heap.size k ∧ IsCells W k) := HDK.out.cells.turn ht5 (fun k hk e => by rcases hk.1 with hk | hk; exact hkm (e ▸ hk); omega) (fun k hk e => by rcases hk.1 with hk | hk; have := HRR.out k hk; omega; omega)
    have HDK5 := Lib.hid hdk5
    have HT5 := Lib.hid ht5
    have HC5 : Hid (BytesIn W5 (.slice a6 m m) ((b.drop (x.1 * 511)).take 511)) := HCBW.out W5 ht5
    have hsum : IntKind.i64.wrap ((at' : Int) + ((pre.length : Int) + 1)) = (at' : Int) + ((pre.length : Int) + 1) := by rw [IntKind.wrap_i64]; omega
    have HP5 := Lib.hid hp5
    have HCL : Hid (((b.drop (x.1 * 511)).take 511).length ≤ 511) := by show _ ≤ _; rw [List.length_take]; omega
    have HNC : Hid ((b.drop (x.1 * 511)).take 511 ≠ []) := fun h => by have := congrArg List.length h; rw [List.length_take, List.length_drop, List.length_nil] at this; omega
    have HWW : Hid (Dk.waits.length ≤ D.waits.length + pre.length ∧ Dk.last.length = D.last.length) := by have h0 := writesD_waits _ _ _ _ HWR.out; rw [List.length_map, List.length_map] at h0; exact h0
    have HWT : Hid (Dk.waits.length ≤ 1000000) := by show _ ≤ _; have := HWW.out.1; have := HWA.out; have := HPLE.out; omega
    have HWOK : Hid ((Dk.write ((first : Int) + ((at' : Int) + ((pre.length : Int) + 1))) (St.pad ([68] ++ (b.drop (x.1 * 511)).take 511))).2 = 0 ∧ True) := ⟨(live_write (live_writes _ _ _ _ HLV.out.1 HLV.out.2 HWR.out).1 (live_writes _ _ _ _ HLV.out.1 HLV.out.2 HWR.out).2 (by rw [HWW.out.2]; have h1 := HLEN.out; have h2 := HND.out; have h3 := HPLE.out; unfold St.need at h2; omega) (St.pad_len (by have := HCL.out; rw [List.length_append]; simp only [List.length_cons, List.length_nil]; omega))).1, trivial⟩
    have HB5 := Lib.hid hb5
    have HL5 := Lib.hid hl5
    clear hc5 hb5 ht5 hp5 hl5 hss hdk5 k0 kf hpne
    refine held_round (S := fun X => X.cell? ⟨p, 0, none⟩ = some (.pointer (some ⟨g, 0, none⟩)) ∧ X.cell? ⟨p, 1, none⟩ = some (.int .i64 first) ∧ X.cell? ⟨p, 2, none⟩ = some (.int .i64 count) ∧ X.cell? ⟨p, 5, none⟩ = some (.int .i64 at') ∧ X.cell? ⟨w.heap.size, 0, none⟩ = some (.pointer (some ⟨p, 0, none⟩)) ∧ X.cell? ⟨w.heap.size + 1 + 1, 0, none⟩ = some (.int .i64 ((pre.length : Int) + 1))) (by kernel_rfl) (by kernel_rfl) (fun ⟨_, _, h⟩ => h) ?_ (fun hHeld => ?_)
    focus exact HSS.out _ (Below.refl _ _).drew
    try simp only [List.size_toArray, List.length_cons, List.length_nil]
    refine wpAnyH_take (i := 0) (v := ?_) rfl (by kernel_rfl) (by kernel_rfl) (by kernel_rfl) (fun _ _ _ h => h) (Or.inl ⟨by rfl, ?_⟩) (by assumption) ?_
    rotate_left
    focus (intro w hSw; (try dsimp only at hSw); go_simp; try with_reducible rfl)
    try simp only [Act.put, List.getElem_toArray, List.getElem_cons_zero, List.getElem_cons_succ, List.setIfInBounds_toArray, List.set_cons_zero, List.set_cons_succ, Nat.zero_add]
    refine wpAnyH_take (i := 1) (v := ?_) rfl (by kernel_rfl) (by kernel_rfl) (by kernel_rfl) (fun _ _ _ h => h) (Or.inl ⟨by rfl, ?_⟩) (by assumption) ?_
    rotate_left
    focus (intro w hSw; (try dsimp only at hSw); go_simp; try with_reducible rfl)
    try simp only [Act.put, List.getElem_toArray, List.getElem_cons_zero, List.getElem_cons_succ, List.setIfInBounds_toArray, List.set_cons_zero, List.set_cons_succ, Nat.zero_add]
    refine wpAnyH_take (i := 2) (v := ?_) rfl (by kernel_rfl) (by kernel_rfl) (by kernel_rfl) (fun _ _ _ h => h) (Or.inl ⟨by rfl, ?_⟩) (by assumption) ?_
    rotate_left
    focus (intro w hSw; (try dsimp only at hSw); go_simp; try with_reducible rfl)
    try simp only [Act.put, List.getElem_toArray, List.getElem_cons_zero, List.getElem_cons_succ, List.setIfInBounds_toArray, List.set_cons_zero, List.set_cons_succ, Nat.zero_add]
    refine wpAnyH_take (i := 3) (v := ?_) rfl (by kernel_rfl) (by kernel_rfl) (by kernel_rfl) (fun _ _ _ h => h) (Or.inl ⟨by rfl, ?_⟩) (by assumption) ?_
    rotate_left
    focus (intro w hSw; (try dsimp only at hSw); go_simp; try with_reducible rfl)
    try simp only [Act.put, List.getElem_toArray, List.getElem_cons_zero, List.getElem_cons_succ, List.setIfInBounds_toArray, List.set_cons_zero, List.set_cons_succ, Nat.zero_add]
    refine wpAnyH_take (i := 4) (v := ?_) rfl (by kernel_rfl) (by kernel_rfl) (by kernel_rfl) (fun _ _ _ h => h) (Or.inl ⟨by rfl, ?_⟩) (by assumption) ?_
    rotate_left
    focus (intro w hSw; (try dsimp only at hSw); go_simp; try with_reducible rfl)
    try simp only [Act.put, List.getElem_toArray, List.getElem_cons_zero, List.getElem_cons_succ, List.setIfInBounds_toArray, List.set_cons_zero, List.set_cons_succ, Nat.zero_add]
    refine wpAnyH_take (i := 5) (v := ?_) rfl (by kernel_rfl) (by kernel_rfl) (by kernel_rfl) (fun _ _ _ h => h) (Or.inl ⟨by rfl, ?_⟩) (by assumption) ?_
    rotate_left
    focus (intro w hSw; (try dsimp only at hSw); go_simp; try with_reducible rfl)
    try simp only [Act.put, List.getElem_toArray, List.getElem_cons_zero, List.getElem_cons_succ, List.setIfInBounds_toArray, List.set_cons_zero, List.set_cons_succ, Nat.zero_add]
    refine wpAnyH_take (i := 6) (v := ?_) rfl (by kernel_rfl) (by kernel_rfl) (by kernel_rfl) (fun _ _ _ h => h) (Or.inl ⟨by rfl, ?_⟩) (by assumption) ?_
    rotate_left
    focus (intro w hSw; (try dsimp only at hSw); go_simp; try with_reducible rfl)
    try simp only [Act.put, List.getElem_toArray, List.getElem_cons_zero, List.getElem_cons_succ, List.setIfInBounds_toArray, List.set_cons_zero, List.set_cons_succ, Nat.zero_add]
    refine wpAnyH_take (i := 7) (v := ?_) rfl (by kernel_rfl) (by kernel_rfl) (by kernel_rfl) (fun _ _ _ h => h) (Or.inl ⟨by rfl, ?_⟩) (by assumption) ?_
    rotate_left
    focus (intro w hSw; (try dsimp only at hSw); go_simp; try with_reducible rfl)
    try simp only [Act.put, List.getElem_toArray, List.getElem_cons_zero, List.getElem_cons_succ, List.setIfInBounds_toArray, List.set_cons_zero, List.set_cons_succ, Nat.zero_add]
    refine wpAnyH_take (i := 8) (v := ?_) rfl (by kernel_rfl) (by kernel_rfl) (by kernel_rfl) (fun _ _ _ h => h) (Or.inl ⟨by rfl, ?_⟩) (by assumption) ?_
    rotate_left
    focus (intro w hSw; (try dsimp only at hSw); go_simp; try with_reducible rfl)
    try simp only [Act.put, List.getElem_toArray, List.getElem_cons_zero, List.getElem_cons_succ, List.setIfInBounds_toArray, List.set_cons_zero, List.set_cons_succ, Nat.zero_add]
    refine wpAnyH_take (i := 9) (v := ?_) rfl (by kernel_rfl) (by kernel_rfl) (by kernel_rfl) (fun _ _ _ h => h) (Or.inl ⟨by rfl, ?_⟩) (by assumption) ?_
    rotate_left
    focus (intro w hSw; (try dsimp only at hSw); go_simp; try with_reducible rfl)
    try simp only [Act.put, List.getElem_toArray, List.getElem_cons_zero, List.getElem_cons_succ, List.setIfInBounds_toArray, List.set_cons_zero, List.set_cons_succ, Nat.zero_add]
    refine wpAnyH_take (i := 11) (v := ?_) rfl (by kernel_rfl) (by kernel_rfl) (by kernel_rfl) (fun _ _ _ h => h) (Or.inl ⟨by rfl, ?_⟩) (by assumption) ?_
    rotate_left
    focus (intro w hSw; (try dsimp only at hSw); go_simp; try with_reducible rfl)
    try simp only [Act.put, List.getElem_toArray, List.getElem_cons_zero, List.getElem_cons_succ, List.setIfInBounds_toArray, List.set_cons_zero, List.set_cons_succ, Nat.zero_add]
    refine wpAnyH_ready (rs := [10]) (by kernel_rfl) (by simp) ?_
    refine (AllReadyH.cons rfl (fun K' hK => ?_) AllReadyH.nil)
    go_simp
    refine hK.out _ _ (HSS.out _ (((Below.refl _ _).drew).alloc (by simp) _)) (fun hHeld => ?_)
    clear hK K'
    try simp only [Act.put, List.getElem_toArray, List.getElem_cons_zero, List.getElem_cons_succ, List.setIfInBounds_toArray, List.set_cons_zero, List.set_cons_succ, Nat.zero_add]
    refine wpAnyH_ready (rs := [12]) (by kernel_rfl) (by simp) ?_
    refine (AllReadyH.cons rfl (fun K' hK => ?_) AllReadyH.nil)
    refine step_appx (w := W5.drew.alloc (.cells #[.int .u8 68] 5)) (by rfl) _ _ rfl (va := .slice (some ⟨W5.heap.size, 0, none⟩) 1 1) (vb := .slice a6 m m) (a := [68]) (b := (b.drop (x.1 * 511)).take 511) (by rfl) (by rfl) (h_cell W5.drew 68) (HC5.out.below (((Below.refl _ _).drew).alloc (Nat.le_refl _) _)) HNC.out (by have := HCL.out; simp only [List.length_cons, List.length_nil]; omega) ?_
    intro v6 w6 hr6 hb6
    obtain ⟨a7, c7, rfl, _⟩ := hr6.form
    have hbw : Below W5.heap.size W5 w6 := (((Below.refl _ _).drew).alloc (Nat.le_refl _) _).trans (hb6.mono (by simp))
    have HBW := Lib.hid hbw
    have HR6 := Lib.hid hr6
    clear hbw hr6 hb6
    refine hK.out _ _ (HSS.out _ HBW.out) (fun hHeld => ?_)
    clear hK K'
    try simp only [Act.put, List.getElem_toArray, List.getElem_cons_zero, List.getElem_cons_succ, List.setIfInBounds_toArray, List.set_cons_zero, List.set_cons_succ, Nat.zero_add]
    refine wpAnyH_ready (rs := [13]) (by kernel_rfl) (by simp) ?_
    refine (AllReadyH.cons rfl (fun K' hK => ?_) AllReadyH.nil)
    refine step_callw (by rfl) 96 #[.agg #[.pointer (some ⟨g, 0, none⟩), .int .i64 first, .int .i64 count], .int .i64 ((at' : Int) + ((pre.length : Int) + 1)), .slice a7 (([68] : List UInt8) ++ (b.drop (x.1 * 511)).take 511).length c7] ?_ (walWriteM_any (HDK5.out.below HBW.out) (first : Int) (count : Int) ((at' : Int) + ((pre.length : Int) + 1)) (by omega) (by omega) _ ([68] ++ (b.drop (x.1 * 511)).take 511) (BytesIn.row HR6.out) (by have := HCL.out; rw [List.length_append]; simp only [List.length_cons, List.length_nil]; omega) HWT.out) ?_
    go_simp
    rintro e w7 ⟨he, hd7, ht7⟩
    rw [HWOK.out.1] at he
    subst he
    refine ⟨.int .i64 0, rfl, ?_⟩
    have hnp : ¬ (fun k => Gro M W3.heap.size k ∧ (k = gm ∨ IsCells W k)) p := fun h => by rcases h.1 with h | h; exact HMP.out h; have := lt_of_block HP.out; omega
    have hnl : ¬ (fun k => Gro M W3.heap.size k ∧ (k = gm ∨ IsCells W k)) w.heap.size := fun h => by rcases h.1 with h | h; have := HMM.out _ h; omega; omega
    have hnk : ¬ (fun k => Gro M W3.heap.size k ∧ (k = gm ∨ IsCells W k)) (w.heap.size + 1 + 1) := fun h => by rcases h.1 with h | h; exact hkm h; omega
    have hp7 : w7.heap[p]? = some (logO g ⟨first, count, age, next, at'⟩) := (ht7.block p (Nat.lt_of_lt_of_le (lt_of_block HP5.out) HBW.out.size) hnp).trans ((HBW.out.block p (lt_of_block HP5.out)).trans HP5.out)
    have hl7 : w7.heap[w.heap.size]? = some (.cells #[.pointer (some ⟨p, 0, none⟩)] 105 (0, 0)) := (ht7.block _ (Nat.lt_of_lt_of_le (lt_of_block HL5.out) HBW.out.size) hnl).trans ((HBW.out.block _ (lt_of_block HL5.out)).trans HL5.out)
    have hb7 : w7.heap[w.heap.size + 1 + 1]? = some (.cells #[.int .i64 ((pre.length : Int) + 1)] 3 (0, 0)) := (ht7.block _ (Nat.lt_of_lt_of_le (lt_of_block HB5.out) HBW.out.size) hnk).trans ((HBW.out.block _ (lt_of_block HB5.out)).trans HB5.out)
    have HB7 := Lib.hid hb7
    have HD7 := Lib.hid hd7
    have HT7 := Lib.hid ht7
    have e7 := lgfull_cells hp7
    refine hK.out _ _ (⟨e7.1, e7.2.1, e7.2.2.1, e7.2.2.2.2.2.1, (wl_cells1 hl7).1, (wl_cells1 hb7).1⟩) (fun hHeld => ?_)
    clear hK K'
    try simp only [Act.put, List.getElem_toArray, List.getElem_cons_zero, List.getElem_cons_succ, List.setIfInBounds_toArray, List.set_cons_zero, List.set_cons_succ, Nat.zero_add]
    clear hnp hnl hnk hp7 hl7 hb7 hd7 ht7 e7
    refine wpAnyH_take (i := 14) (v := ?_) rfl (by kernel_rfl) (by kernel_rfl) (by kernel_rfl) (fun _ _ _ h => h) (Or.inl ⟨by rfl, ?_⟩) (by assumption) ?_
    rotate_left
    focus (intro w hSw; (try dsimp only at hSw); go_simp; try with_reducible rfl)
    try simp only [Act.put, List.getElem_toArray, List.getElem_cons_zero, List.getElem_cons_succ, List.setIfInBounds_toArray, List.set_cons_zero, List.set_cons_succ, Nat.zero_add]
    refine wpAnyH_done (by kernel_rfl) ?_ _
    gi_wp2
    have zb := HBW.out.size
    have z5 := HT5.out.size
    have z3 := HTK.out.size
    have nk5 : ∀ k, k ≠ w.heap.size + 1 + 1 → k < W.heap.size → ¬ (fun k => Gro M W3.heap.size k ∧ (k = gm ∨ IsCells W k)) k → w7.heap[k]? = W.heap[k]? := fun k h1 h2 h3 => (HT7.out.block k (by omega) h3).trans ((HBW.out.block k (by omega)).trans (HT5.out.block k h2 h1))
    refine ⟨⟨by have := HT7.out.size; omega, fun k o hk ho hcl => (nk5 k (by omega) (lt_of_block ho) (fun h => ?_)).trans ho⟩, ⟨nk5 _ (by omega) (by omega) (fun h => ?_), nk5 _ (by omega) (by omega) (fun h => ?_)⟩, _, ?_, HD7.out.mono (fun k _ hk => ?_) (fun k _ hk => ?_), ?_, ?_⟩
    · rcases h.2 with h | ⟨c, t, fz, hh⟩
      · have := HGM.out; omega
      · rw [ho] at hh; cases hh; cases hcl
    · rcases h.1 with h | h
      · have := HMM.out _ h; omega
      · omega
    · rcases h.1 with h | h
      · have := HMM.out _ h; omega
      · omega
    · rw [List.map_append, List.map_append]
      have e := writesD_snoc (St.pad (68 :: (b.drop (x.1 * 511)).take 511)) _ _ _ _ HWR.out
      rw [List.length_map, List.length_map] at e
      have e2 : ((first + at' + 1 : Nat) : Int) + (pre.length : Int) = (first : Int) + ((at' : Int) + ((pre.length : Int) + 1)) := by push_cast; omega
      rw [e2] at e
      exact e.trans (writeD_ok HWOK.out.1)
    · rcases hk with hk | hk
      · exact hk.1
      · exact .inr (by omega)
    · rcases hk with hk | hk
      · exact hk.1
      · exact .inr (by omega)
    · refine (((HTK.out.trans (M' := fun k => k = w.heap.size + 1 + 1) HT5.out (fun k hk => .inl (.inr hk))).thenBelow HBW.out).trans HT7.out (fun k hk => ?_))
      rcases hk.1 with h | h
      · exact .inl (.inl h)
      · exact .inr h
    · have := HB7.out
      rw [List.map_append, List.length_append, List.length_map]
      simp only [List.map_cons, List.map_nil, List.length_cons, List.length_nil]
      push_cast
      simpa using this
theorem walAppend_any {w : World} {g p N : Nat} {D D' : St.Dk} {M R : Nat → Prop} {l l' : St.Lg} {v : Value} {b : List UInt8} (h : DkAt w g D M R) (hp : w.heap[p]? = some (logO g l)) (hMp : ¬ M p) (hRp : ¬ R p) (hG : ¬ M 0) (hT : Half w) (hb : ByteRow w N v b) (hMb : ∀ k, v.ownBlock = some k → ¬ M k ∧ k ≠ p)
    (hf : l.first ≤ 100000 ∧ l.count ≤ 100000 ∧ l.at' ≤ l.count) (ha : 0 ≤ l.age ∧ l.age ≤ St.mostAge) (hn : 0 ≤ l.next ∧ l.next ≤ 100000000) (hl : b.length ≤ 16777216) (hw : D.waits.length ≤ 100000) (hlv : D.off = false ∧ D.left = -1) (hlen : l.first + l.count ≤ D.last.length) (hok : l.append b D = (.ok l', D')) :
    Calls Tryz.prog 47 #[.pointer (some ⟨p, 0, none⟩), v] w (LgEnd w g p M R l (l.append b D)) :=
  (walAppend_clip h.clip hp (fun _ h => h.2) (fun _ h => h.2) (fun h => hMp h.1) (fun h => hRp h.1) (fun h => hG h.1) hT hb (fun k hk => ⟨fun h => (hMb k hk).1 h.1, (hMb k hk).2⟩) hf ha hn hl hw hlv hlen hok).mono fun _ _ h => h.unclip
end Go.Proofs.YtcpgbekcbaelpaaGreatDoor
/- Layer 5: a log's age, and its room. -/
namespace Go.Proofs.YtcpgbekcbaelpaaGreatDoor
open Go.RowKit Go.Maps Wr
set_option linter.unusedVariables false
set_option linter.unusedSimpArgs false
set_option maxRecDepth 100000 in
theorem walAge_any {w : World} {g p : Nat} {l : St.Lg} (hp : w.heap[p]? = some (logO g l)) : Calls Tryz.prog 52 #[.pointer (some ⟨p, 0, none⟩)] w fun e w' => e = .returned (.int .i64 l.age) ∧ w = w' := by
  obtain ⟨_, _, _, c3, _, _, _⟩ := lgfull_cells hp
  clear hp
  go_enter Tryz.func52, Tryz.ntmps52
  go_wp2
  go_ret
  exact ⟨rfl, rfl⟩
set_option maxRecDepth 100000 in
set_option maxHeartbeats 1000000 in
theorem walRoom_any {w : World} {g p : Nat} {l : St.Lg} (hp : w.heap[p]? = some (logO g l)) (hc : l.count ≤ 100000) (ha : l.at' ≤ 1000000) : Calls Tryz.prog 46 #[.pointer (some ⟨p, 0, none⟩)] w fun e w' => e = .returned (.int .i64 l.room) ∧ Below w.heap.size w w' := by
  obtain ⟨_, _, c2, _, _, c5, _⟩ := lgfull_cells hp
  by_cases h : l.count ≤ l.at'
  · have hr : l.room = -1 := by unfold St.Lg.room; rw [if_pos h]
    rw [hr]
    have h1 : (l.count : Int) ≤ (l.at' : Int) := by omega
    have h2 : decide ((l.at' : Int) ≥ (l.count : Int)) = true := by simpa using h
    generalize l.count = cn at *
    generalize l.at' = at' at *
    clear hp h hr
    go_enter Tryz.func46, Tryz.ntmps46
    go_wp2
    go_quiet (fail)
    go_wp2
    go_ret
    exact ⟨rfl, below_drewN (Below.refl _ _) _⟩
  · have hr : l.room = min (((l.count : Int) - l.at' - 1) * 511) 16777216 := by unfold St.Lg.room; rw [if_neg h]
    rw [hr]
    have h1 : ¬ (l.count : Int) ≤ (l.at' : Int) := by omega
    have h2 : decide ((l.count : Int) ≤ (l.at' : Int)) = false := by simpa using h1
    have q1 : IntKind.i64.wrap ((l.count : Int) - (l.at' : Int)) = (l.count : Int) - (l.at' : Int) := by rw [IntKind.wrap_i64]; omega
    have q2 : IntKind.i64.wrap ((l.count : Int) - (l.at' : Int) - 1) = (l.count : Int) - (l.at' : Int) - 1 := by rw [IntKind.wrap_i64]; omega
    have q3 : IntKind.i64.wrap (((l.count : Int) - (l.at' : Int) - 1) * 511) = ((l.count : Int) - (l.at' : Int) - 1) * 511 := by rw [IntKind.wrap_i64]; omega
    generalize l.count = cn at *
    generalize l.at' = at' at *
    clear hp h hr
    go_enter Tryz.func46, Tryz.ntmps46
    go_wp2
    go_quiet (fail)
    go_wp2
    go_quiet (fail)
    go_wp2
    go_ret
    exact ⟨rfl, below_drewN (below_drewN (Below.refl _ _) _) _⟩
end Go.Proofs.YtcpgbekcbaelpaaGreatDoor
/- Layer 5: the record that begins in a sector. -/
namespace Go.Proofs.YtcpgbekcbaelpaaGreatDoor
open Go.RowKit Go.Maps Wr
set_option linter.unusedVariables false
set_option linter.unusedSimpArgs false
theorem DkAt.now_len {w : World} {g : Nat} {D : St.Dk} {M R : Nat → Prop} (h : DkAt w g D M R) {i : Nat} (hi : i < D.last.length) : (D.now i).length = 512 := by
  obtain ⟨gl, cl, gm, vw, sx, vs, ws, h⟩ := h
  cases hf : ws.reverse.find? (fun x => x.1 == i) with
  | some x =>
    rw [now_some h hf]
    exact (h.was x (List.mem_reverse.1 (List.mem_of_find?_eq_some hf))).2.len
  | none =>
    rw [now_none h hf]
    rw [h.len] at hi
    exact (h.secs i _ (List.getElem?_eq_getElem hi)).len
theorem read_on {D : St.Dk} {i : Nat} (ho : D.off = false) (hi : i < D.last.length) : D.read (i : Int) = (D.now i, 0) := by
  unfold St.Dk.read
  rw [if_neg (by rw [ho]; decide), if_neg (by omega), Int.toNat_natCast]
theorem take_one {s : List UInt8} (h : s.length = 512) : ∃ c r, s = c :: r ∧ ∀ x, (s.take 1 = [x]) ↔ c = x := by
  cases s with
  | nil => simp at h
  | cons c r => exact ⟨c, r, rfl, fun x => by simp⟩
theorem inw_drewN {M : Nat} {w : World} {p : Nat} {b : List UInt8} {x : Int} (h : InW M w p b x) : ∀ n, InW M (w.drewN n) p b x
  | 0 => h
  | n + 1 => inw_drewN (w := w.drew) h n
def RecI (w : World) (s : Nat → List UInt8) (nd at' zn : Nat) (out : Option (List UInt8)) (k : Nat) (s12 s13 : Value) (X : World) : Prop :=
  ∃ (b : List UInt8) (i : Nat), ByteRow X w.heap.size s12 b ∧ s13 = .int .i64 (i : Int) ∧ i + k = nd ∧ 1 ≤ i ∧ St.parts s k (at' + i) zn b = out ∧ b.length ≤ zn ∧ zn ≤ b.length + 511 * k ∧ (k = 0 ∨ 511 * (k - 1) + b.length < zn) ∧ Below w.heap.size w X
def finR (s0 : List UInt8) (age next : Int) : Option (List UInt8) → Option (List UInt8)
  | none => none
  | some b => if s0 = St.pad (St.logFirst age next b) ∧ (St.logFirst age next b).length ≤ 512 then some b else none
theorem slice_lh {w : World} {v : Value} {b : List UInt8} (h : BytesIn w v b) (l k : Nat) (hl : l + k ≤ b.length) :
    ∃ a' c', (∀ W, (Instr.slice 44 v (some (.int .i64 (l : Int))) (some (.int .i64 ((l + k : Nat) : Int))) none).run Tryz.prog W = .ok (.slice a' k c') W) ∧ BytesIn w (.slice a' k c') ((b.drop l).take k) := by
  obtain ⟨ao, cap, rfl, h2, _⟩ := id h
  have hs : ∀ W, (sizeOf (Tryz.prog.elem 44)).run Tryz.prog W = .ok 1 W := fun W => by kernel_rfl
  have hr := fun W : World => run_slice_lh (P := Tryz.prog) (w := W) 44 ao b.length cap (by kernel_rfl) .i64 .i64 (l : Int) ((l + k : Nat) : Int) (by omega) (by omega) (by omega)
  obtain ⟨a', e, hb⟩ := sliced_in h l k cap hl (by omega) (Nat.le_refl _)
  simp only [hs, Result.andThen, Int.toNat_natCast] at hr
  simp only [e] at hr
  exact ⟨a', _, hr, hb⟩
theorem wpList_appv {w : World} {ops : Array Oper} {rest : List Oper} {o : Oper} {a : Act} {Q : Exit → Act → World → Prop} (hgd : o.guard = none) (s x : Operand)
    (ho : o.op = .call { callee := .builtin .append, args := #[s, x], argTypes := #[44, 44] }) {N : Nat} {v vx : Value} {b l : List UInt8} (hs : a.eval s = v) (hr : ByteRow w N v b) (hx : a.eval x = vx) (hrx : BytesIn w vx l) (hne : l ≠ []) (hN : N ≤ w.heap.size)
    (h63 : b.length + l.length ≤ 1000000000)
    (h : ∀ v' w', ByteRow w' N v' (b ++ l) → OwnStep w v w' v' → wpList Tryz.prog ops Q rest (a.put o.dst v') w') : wpList Tryz.prog ops Q (o :: rest) a w := by
  obtain ⟨i0, hi, hz0, hz1, hz2⟩ := info_parts infoB
  obtain ⟨ao, cap, hvx, h2, h3, h4, h5⟩ := hrx
  have hl0 : 0 < l.length := List.length_pos_iff.2 hne
  obtain ⟨g, of', rfl, _⟩ := h5 0 hl0
  refine wpList_append_own_at w hgd s x 44 ho N 5 i0 (.int .u8 0) 1 1 Tryz.underlying44 hi hz0 hz1 hz2 rfl (by decide) v b.length (bvals b) hs hr.owns ⟨g, of', none⟩ l.length cap (bvals l) (by rw [hx, hvx]) (by rw [bvals_length, Nat.mul_one]) (fun j u hj => ?_) (bvals_one l) (by unfold maxLen; omega) (by omega) hN ?_
  · have hj2 := (List.getElem?_eq_some_iff.1 hj).1
    rw [bvals_length] at hj2
    obtain ⟨g', o', e1, _, e2⟩ := h5 j hj2
    cases e1
    rw [show (Addr.add ⟨g, of', none⟩ j) = ⟨g, of' + j, none⟩ by unfold Addr.add; split <;> simp_all]
    rw [e2, ← hj]
    simp [bvals, hj2]
  · intro v' w' hown hgr _ hloc
    rw [← bvals_append] at hown
    refine h v' w' (ByteRow.of hown (by rw [List.length_append])) ⟨(Chg.refl _ w).grown hgr (fun k hk => .inl (by simp [hk])), ?_⟩
    rcases hloc with e | e
    · exact .inl e
    · exact .inr ⟨_, e, Nat.le_refl _⟩
def RecEnd (w : World) (r : Option (List UInt8)) (e : Ending) (w' : World) : Prop :=
  Below w.heap.size w w' ∧ ∃ v n ok, e = .returned (.tuple #[v, .int .i64 n, .bool ok, .int .i64 0]) ∧ match r with
    | none => ok = false
    | some b => ok = true ∧ n = ((St.need b.length : Nat) : Int) ∧ ByteRow w' w.heap.size v b
set_option maxRecDepth 100000 in
set_option maxHeartbeats 8000000 in
theorem walRecord_any {w : World} {g p : Nat} {D : St.Dk} {M R : Nat → Prop} {l : St.Lg} (h : DkAt w g D M R) (hp : w.heap[p]? = some (logO g l)) (hT : Half w) (ho : D.off = false) (hlen : l.first + l.count ≤ D.last.length) (hat : l.at' < l.count) (hc : l.count ≤ 65536 ∧ l.first ≤ 65536) (ha : 1 ≤ l.age ∧ l.age ≤ St.mostAge) (hn : 0 ≤ l.next ∧ l.next ≤ 100000000) :
    Calls Tryz.prog 107 #[.pointer (some ⟨p, 0, none⟩)] w (RecEnd w (St.recordAt (fun i => D.now (l.first + i)) l.count l.age l.next l.at')) := by
  obtain ⟨first, count, age, next, at'⟩ := l
  dsimp only at hp hlen hat hc ha hn ⊢
  replace ha : 1 ≤ age ∧ age ≤ 4611686018427387904 := ha
  have HH := Lib.hid h
  have HP := Lib.hid hp
  have HT := Lib.hid hT
  have HO := Lib.hid ho
  have HLEN := Lib.hid hlen
  have hrd := read_on ho (show first + at' < D.last.length by omega)
  have HSL : Hid ((D.now (first + at')).length = 512) := h.now_len (by omega)
  have HRD := Lib.hid hrd
  obtain ⟨c0, c1, c2, c3, c4, c5, cf⟩ := lgfull_cells hp
  have hfi : (first : Int) ≤ 65536 := by omega
  have hai : (at' : Int) ≤ 65536 := by omega
  obtain ⟨s0, hs0⟩ : ∃ s0, D.now (first + at') = s0 := ⟨_, rfl⟩
  have HS0 := Lib.hid hs0
  rw [hs0] at HRD HSL
  obtain ⟨ch, rest, hcr, htk⟩ := take_one HSL.out
  have HCR := Lib.hid hcr
  have HRE : Hid (Calls Tryz.prog 105 #[.agg #[.pointer (some ⟨g, 0, none⟩), .int .i64 first, .int .i64 count], .int .i64 at'] w.drew (ReadEnd w.drew s0 0)) := by
    have := walRead_any (w := w.drew) (h.below (Below.refl _ _).drew) (first : Int) (count : Int) (at' : Int) (by omega) (by omega)
    rw [show (first : Int) + (at' : Int) = ((first + at' : Nat) : Int) by push_cast; rfl, HRD.out] at this
    exact this
  have hss : ∀ X, Below w.heap.size w X → X.cell? ⟨p, 0, none⟩ = some (.pointer (some ⟨g, 0, none⟩)) ∧ X.cell? ⟨p, 1, none⟩ = some (.int .i64 first) ∧ X.cell? ⟨p, 2, none⟩ = some (.int .i64 count) ∧ X.cell? ⟨p, 5, none⟩ = some (.int .i64 at') := fun X hX => by
    have e1 := lgfull_cells ((hX.block p (lt_of_block hp)).trans hp)
    exact ⟨e1.1, e1.2.1, e1.2.2.1, e1.2.2.2.2.2.1⟩
  have HSS := Lib.hid hss
  have HRA : Hid (∀ X, Below w.heap.size w X → ∀ j : Nat, at' + j < count → Calls Tryz.prog 105 #[.agg #[.pointer (some ⟨g, 0, none⟩), .int .i64 first, .int .i64 count], .int .i64 ((at' + j : Nat) : Int)] X.drew (ReadEnd X.drew (D.now (first + (at' + j))) 0)) := fun X hX j hj => by
    have := walRead_any (w := X.drew) (h.below hX.drew) (first : Int) (count : Int) ((at' + j : Nat) : Int) (by omega) (by omega)
    rw [show (first : Int) + ((at' + j : Nat) : Int) = ((first + (at' + j) : Nat) : Int) by push_cast; rfl, read_on ho (by omega)] at this
    exact this
  have HNOW : Hid (∀ j : Nat, at' + j < count → (D.now (first + (at' + j))).length = 512) := fun j hj => h.now_len (by omega)
  have HSF : Hid (∀ X, Below w.heap.size w X → X.cell? ⟨p, 3, none⟩ = some (.int .i64 age) ∧ X.cell? ⟨p, 4, none⟩ = some (.int .i64 next)) := fun X hX => by
    have e1 := lgfull_cells ((hX.block p (lt_of_block hp)).trans hp)
    exact ⟨e1.2.2.2.1, e1.2.2.2.2.1⟩
  clear h hp hT ho hlen hrd hs0 hcr hss
  by_cases hch : ch = 72
  · have hdef : St.recordAt (fun i => D.now (first + i)) count age next at' = (let a := rn 1 St.mostAge (s0.drop 1) 0
        let n := rn 0 St.mostAge a.2.1 a.2.2
        let z := rn 0 16777216 n.2.1 n.2.2
        let c := rn 0 4294967296 z.2.1 z.2.2
        if c.2.2 ≠ 0 ∨ a.1 ≠ age ∨ n.1 ≠ next ∨ count < at' + St.need z.1.toNat then none
        else match St.parts (fun i => D.now (first + i)) (St.need z.1.toNat - 1) (at' + 1) z.1.toNat [] with
          | none => none
          | some b => if s0 = St.pad (St.logFirst age next b) ∧ (St.logFirst age next b).length ≤ 512 then some b else none) := by
      unfold St.recordAt
      rw [if_pos (show ((fun i => D.now (first + i)) at').take 1 = [72] from by
        show (D.now (first + at')).take 1 = [72]
        rw [HS0.out, htk]
        exact hch), ← HS0.out]
      rfl
    obtain ⟨⟨av, ab, ax⟩, ha0⟩ : ∃ a, rn 1 St.mostAge (s0.drop 1) 0 = a := ⟨_, rfl⟩
    have hal : ab.length ≤ 511 := by have := rn_le 1 St.mostAge (s0.drop 1) 0; rw [ha0, List.length_drop, HSL.out] at this; exact this
    obtain ⟨⟨nv, nb, nx⟩, hn0⟩ : ∃ a, rn 0 St.mostAge ab ax = a := ⟨_, rfl⟩
    have hnl : nb.length ≤ 511 := by have := rn_le 0 St.mostAge ab ax; rw [hn0] at this; exact Nat.le_trans this hal
    obtain ⟨⟨zv, zb, zx⟩, hz0⟩ : ∃ a, rn 0 16777216 nb nx = a := ⟨_, rfl⟩
    have hzl : zb.length ≤ 511 := by have := rn_le 0 16777216 nb nx; rw [hz0] at this; exact Nat.le_trans this hnl
    have hzc := rn_count (lo := 0) (hi := 16777216) nb nx (by omega) (by omega)
    rw [hz0] at hzc
    obtain ⟨zn, rfl⟩ : ∃ zn : Nat, zv = (zn : Int) := ⟨zv.toNat, (Int.toNat_of_nonneg hzc.1).symm⟩
    obtain ⟨⟨cv, cb, cx⟩, hc0⟩ : ∃ a, rn 0 4294967296 zb zx = a := ⟨_, rfl⟩
    dsimp only at hdef hzc
    rw [ha0] at hdef
    dsimp only at hdef
    rw [hn0] at hdef
    dsimp only at hdef
    rw [hz0] at hdef
    dsimp only at hdef
    rw [hc0] at hdef
    dsimp only at hdef
    rw [Int.toNat_natCast] at hdef
    have hzn : zn ≤ 16777216 := by omega
    have HDEF := Lib.hid hdef
    have HA0 : Hid (rn 1 4611686018427387904 (s0.drop 1) 0 = (av, ab, ax)) := ha0
    have HN0 : Hid (rn 0 4611686018427387904 ab ax = (nv, nb, nx)) := hn0
    have HDL : Hid ((s0.drop 1).length ≤ 1000000) := by show _ ≤ _; rw [List.length_drop, HSL.out]; omega
    have HLA : Hid (ab.length ≤ 1000000) := Nat.le_trans hal (by omega)
    have HLN : Hid (nb.length ≤ 1000000) := Nat.le_trans hnl (by omega)
    have HLZ : Hid (zb.length ≤ 1000000) := Nat.le_trans hzl (by omega)
    have HZ0 := Lib.hid hz0
    have HC0 := Lib.hid hc0
    have HAL := Lib.hid hal
    have HNL := Lib.hid hnl
    have HZL := Lib.hid hzl
    have HZN := Lib.hid hzn
    clear hdef ha0 hn0 hz0 hc0 hal hnl hzl hzn hzc htk
    go_enter Tryz.func107, Tryz.ntmps107
    go_wp2
    go_region_held3 (fun X => X.cell? ⟨p, 0, none⟩ = some (.pointer (some ⟨g, 0, none⟩)) ∧ X.cell? ⟨p, 1, none⟩ = some (.int .i64 first) ∧ X.cell? ⟨p, 2, none⟩ = some (.int .i64 count) ∧ X.cell? ⟨p, 5, none⟩ = some (.int .i64 at'))
      (first | exact HSS.out _ (Below.refl _ _).drew | exact HSS.out _ HB1.out)
      (first | (go_at_call 105; refine HRE.out.mono ?_; rintro e w1 ⟨v1, rfl, hr1, hb1⟩; obtain ⟨g1, p1, hv1, hg1⟩ := hr1.shape (by rw [HCR.out]; simp); subst hv1; have k0 := hr1.1.cellAt 0 (by rw [bvals_length, HSL.out]; omega); have HR1 := Lib.hid hr1; have HB1 : Hid (Below w.heap.size w w1) := (Below.refl _ _).drew.trans hb1; clear hr1 hb1 hg1))
    replace k0 : w1.cell? ⟨g1, 0, none⟩ = some (.int .u8 72) := by
      rw [k0, HCR.out, hch]
      rfl
    clear hch
    have hl0 : 0 < s0.length := by rw [HSL.out]; omega
    have hl1 : (0 : Int) < (s0.length : Int) := by omega
    obtain ⟨b1, c1, h1, h2⟩ := slice_l (BytesIn.row HR1.out) 1 511 (by rw [HSL.out])
    have h1' : ∀ W, (Instr.slice 44 (.slice (some ⟨g1, 0, none⟩) s0.length p1) (some (.int .i64 1)) none none).run Tryz.prog W = .ok (.slice b1 511 c1) W := h1
    clear h1
    have HOP := Lib.hid (open_any _ (s0.drop 1) _ h2 (by rw [List.length_drop, HSL.out]; omega))
    clear h2
    go_wp2_with (first
        | (go_at_call 110; refine HOP.out.mono ?_; rintro e w2 ⟨pr, M2, rfl, hp1, hp2, hin, hb⟩; have HIN := Lib.hid hin; have HP1 := Lib.hid hp1; have HB2 := Lib.hid hb; clear hp1 hp2 hin hb)
        | (go_at_call 111; (with_reducible refine (wNum_fn pr (s0.drop 1) 0 1 4611686018427387904 w2 HIN.out HDL.out).mono ?_); rintro e w3 ⟨he, hin, hc⟩; rw [HA0.out] at he hin; dsimp only at he hin; subst he; have HI3 := Lib.hid hin; have HC3 := Lib.hid hc; clear hin hc HA0)
        | (go_at_call 111; (with_reducible refine (wNum_fn pr ab ax 0 4611686018427387904 w3 HI3.out HLA.out).mono ?_); rintro e w4 ⟨he, hin, hc⟩; rw [HN0.out] at he hin; dsimp only at he hin; subst he; have HI4 := Lib.hid hin; have HC4 := Lib.hid hc; clear hin hc HN0)
        | (go_at_call 111; (with_reducible refine (wNum_fn pr nb nx 0 16777216 w4 HI4.out HLN.out).mono ?_); rintro e w5 ⟨he, hin, hc⟩; rw [HZ0.out] at he hin; dsimp only at he hin; subst he; have HI5 := Lib.hid hin; have HC5 := Lib.hid hc; clear hin hc HZ0)
        | (go_at_call 111; (with_reducible refine (wNum_fn pr zb zx 0 4294967296 w5 HI5.out HLZ.out).mono ?_); rintro e w6 ⟨he, hin, hc⟩; rw [HC0.out] at he hin; dsimp only at he hin; subst he; have HI6 := Lib.hid hin; have HC6 := Lib.hid hc; clear hin hc HC0))
    have hb6 : Below w.heap.size w w6 := by
      have z1 := HB1.out.size
      have z2 := HB2.out.size
      have zp := HP1.out
      have hb2 := HB1.out.trans (HB2.out.mono z1)
      have z3 := HC3.out.size
      have z4 := HC4.out.size
      have z5 := HC5.out.size
      have b3 : Below w.heap.size w2 w3 := HC3.out.below (by omega) (fun k hk => by simp at hk; omega)
      have b4 : Below w.heap.size w3 w4 := HC4.out.below (by omega) (fun k hk => by simp at hk; omega)
      have b5 : Below w.heap.size w4 w5 := HC5.out.below (by omega) (fun k hk => by simp at hk; omega)
      have b6 : Below w.heap.size w5 w6 := HC6.out.below (by omega) (fun k hk => by simp at hk; omega)
      exact (((hb2.trans b3).trans b4).trans b5).trans b6
    have HB6 := Lib.hid hb6
    have hr6 : BytesIn w6 (.slice (some ⟨g1, 0, none⟩) s0.length p1) s0 := by
      have z2 := HB2.out.size
      have zp := HP1.out
      have z3 := HC3.out.size
      have z4 := HC4.out.size
      have z5 := HC5.out.size
      have b3 : Below w1.heap.size w2 w3 := HC3.out.below (by omega) (fun k hk => by simp at hk; omega)
      have b4 : Below w1.heap.size w3 w4 := HC4.out.below (by omega) (fun k hk => by simp at hk; omega)
      have b5 : Below w1.heap.size w4 w5 := HC5.out.below (by omega) (fun k hk => by simp at hk; omega)
      have b6 : Below w1.heap.size w5 w6 := HC6.out.below (by omega) (fun k hk => by simp at hk; omega)
      exact (BytesIn.row HR1.out).below ((((HB2.out.trans b3).trans b4).trans b5).trans b6)
    have HR6 := Lib.hid hr6
    clear hr6
    obtain ⟨d0, d1, d2, d5⟩ := HSS.out w6 hb6
    obtain ⟨d3, d4⟩ := HSF.out w6 hb6
    have HER : Hid (∀ n, Calls Tryz.prog 114 #[.pointer (some ⟨pr, 0, none⟩)] (w6.drewN n) fun e w' => e = .returned (.int .i64 cx) ∧ w6.drewN n = w') := fun n => err_any pr cb cx (w6.drewN n) (inw_drewN HI6.out n)
    have HNE : Hid (∀ W, Calls Tryz.prog 94 #[.int .i64 (zn : Int)] W fun e w' => e = .returned (.int .i64 ((St.need zn : Nat) : Int)) ∧ W = w') := fun W => walNeed_any zn (by have := HZN.out; omega) W
    have hnd : St.need zn ≤ 40000 := by have := HZN.out; unfold St.need; omega
    obtain ⟨nd, hndd⟩ : ∃ nd, St.need zn = nd := ⟨_, rfl⟩
    rw [hndd] at HNE hnd
    have HND := Lib.hid hndd
    clear hb6 hndd
    by_cases hbad : cx ≠ 0 ∨ av ≠ age ∨ nv ≠ next ∨ count < at' + nd
    · have hno : Hid (St.recordAt (fun i => D.now (first + i)) count age next at' = none) := by
        show _ = _
        rw [HDEF.out, HND.out, if_pos hbad]
      by_cases q1 : cx = 0
      · by_cases q2 : av = age
        · by_cases q3 : nv = next
          · have q4 : count < at' + nd := by
              rcases hbad with h | h | h | h
              · exact absurd q1 h
              · exact absurd q2 h
              · exact absurd q3 h
              · exact h
            subst q1 q2 q3
            have q5 : IntKind.i64.wrap ((count : Int) - (at' : Int)) = (count : Int) - (at' : Int) := by rw [IntKind.wrap_i64]; omega
            have q6 : (count : Int) - (at' : Int) < (nd : Int) := by omega
            have q7 : decide ((count : Int) - (at' : Int) < (nd : Int)) = true := by simpa using q6
            clear hbad q4
            go_quiet (first | (go_at_call 114; exact wqs1 (HER.out _)) | (go_at_call 94; exact wqs1 (HNE.out _)))
            go_wp2
            exact bodyPost_ret (v := .tuple #[.slice none 0 0, .int .i64 0, .bool false, .int .i64 0]) (by simp [results, Tryz.results107, go_sem]) rfl ⟨below_drewN HB6.out _, _, _, _, rfl, by rw [hno.out]⟩
          · have r1 : (nv == next) = false := by simpa using q3
            have r2 : (nv != next) = true := by simpa using q3
            subst q1 q2
            clear hbad
            go_quiet (first | (go_at_call 114; exact wqs1 (HER.out _)) | (go_at_call 94; exact wqs1 (HNE.out _)))
            go_wp2
            exact bodyPost_ret (v := .tuple #[.slice none 0 0, .int .i64 0, .bool false, .int .i64 0]) (by simp [results, Tryz.results107, go_sem]) rfl ⟨below_drewN HB6.out _, _, _, _, rfl, by rw [hno.out]⟩
        · have r1 : (av == age) = false := by simpa using q2
          have r2 : (av != age) = true := by simpa using q2
          subst q1
          clear hbad
          go_quiet (first | (go_at_call 114; exact wqs1 (HER.out _)) | (go_at_call 94; exact wqs1 (HNE.out _)))
          go_wp2
          exact bodyPost_ret (v := .tuple #[.slice none 0 0, .int .i64 0, .bool false, .int .i64 0]) (by simp [results, Tryz.results107, go_sem]) rfl ⟨below_drewN HB6.out _, _, _, _, rfl, by rw [hno.out]⟩
      · have q2 : (cx == 0) = false := by simpa using q1
        have q3 : (cx != 0) = true := by simpa using q1
        clear hbad
        go_quiet ((go_at_call 114; exact wqs1 (HER.out _)))
        go_wp2
        exact bodyPost_ret (v := .tuple #[.slice none 0 0, .int .i64 0, .bool false, .int .i64 0]) (by simp [results, Tryz.results107, go_sem]) rfl ⟨below_drewN HB6.out _, _, _, _, rfl, by rw [hno.out]⟩
    · have g1 : cx = 0 := Classical.not_not.1 fun h => hbad (.inl h)
      have g2 : av = age := Classical.not_not.1 fun h => hbad (.inr (.inl h))
      have g3 : nv = next := Classical.not_not.1 fun h => hbad (.inr (.inr (.inl h)))
      have g4 : at' + nd ≤ count := Nat.le_of_not_lt fun h => hbad (.inr (.inr (.inr h)))
      subst g1 g2 g3
      have hyes0 : St.recordAt (fun i => D.now (first + i)) count av nv at' = finR s0 av nv (St.parts (fun i => D.now (first + i)) (nd - 1) (at' + 1) zn []) := by
        rw [HDEF.out, HND.out, if_neg hbad]
        cases St.parts (fun i => D.now (first + i)) (nd - 1) (at' + 1) zn [] <;> rfl
      obtain ⟨out, hout⟩ : ∃ out, St.parts (fun i => D.now (first + i)) (nd - 1) (at' + 1) zn [] = out := ⟨_, rfl⟩
      rw [hout] at hyes0
      have hyes := Lib.hid hyes0
      clear hyes0
      have hnd1 : 1 ≤ nd ∧ zn ≤ 511 * (nd - 1) ∧ (nd - 1 = 0 ∨ 511 * (nd - 1 - 1) < zn) := by
        rw [← HND.out]
        unfold St.need
        omega
      have q5 : IntKind.i64.wrap ((count : Int) - (at' : Int)) = (count : Int) - (at' : Int) := by rw [IntKind.wrap_i64]; omega
      have q6 : ¬ (count : Int) - (at' : Int) < (nd : Int) := by omega
      have q7 : decide ((count : Int) - (at' : Int) < (nd : Int)) = false := by simpa using q6
      have G4 := Lib.hid g4
      have ND1 := Lib.hid hnd1
      have HOUT := Lib.hid hout
      clear hbad g4 hnd1 hout
      go_quiet (first | (go_at_call 114; exact wqs1 (HER.out _)) | (go_at_call 94; exact wqs1 (HNE.out _)))
      go_wp2
      have HB7 : Hid (Below w.heap.size w (w6.drewN nq)) := below_drewN HB6.out _
      have HR7 : Hid (BytesIn (w6.drewN nq) (.slice (some ⟨g1, 0, none⟩) s0.length p1) s0) := HR6.out.below (below_drewN (Below.refl _ _) _)
      clear d0 d1 d2 d3 d4 d5 HER q5 q6 q7 HI6 HC6 HC5 HC4 HC3 HI3 HI4 HI5 HB6 HR6
      generalize w6.drewN nq = W7 at *
      have HI0 : Hid (RecI W7 (fun i => D.now (first + i)) nd at' zn out (nd - 1) (.slice none 0 0) (.int .i64 1) W7) := ⟨[], 1, ⟨Row.nil _ _, fun k h => by simp [Value.ownBlock] at h⟩, rfl, by have := ND1.out; omega, by omega, HOUT.out, by simp, by have := ND1.out; simp; omega, by have := ND1.out; simp; omega, Below.refl _ _⟩
      go_loopg [12, 13] (nd - 1) (fun gk s12 s13 wr => RecI W7 (fun i => D.now (first + i)) nd at' zn out gk s12 s13 wr)
      case atStart => exact HI0.out
      case round =>
        clear HI0
        obtain ⟨b, i, hrow, rfl, hik, hi1, hpt, hbz, hzb, hor, hb⟩ := hrel
        have HB := Lib.hid hb
        have HR := Lib.hid hrow
        have HWB : Hid (Below w.heap.size w wr) := HB7.out.trans (hb.mono HB7.out.size)
        have HSR : Hid (BytesIn wr (.slice (some ⟨g1, 0, none⟩) s0.length p1) s0) := HR7.out.below hb
        obtain ⟨bo, bc, rfl, _⟩ := hrow.form
        by_cases hk : gk = 0
        · subst hk
          rw [St.parts] at hpt
          subst hpt
          have g1 : ¬ ((i : Int) < (nd : Int)) := by omega
          have HBZ : Hid (b.length = zn) := by show _ = _; omega
          have HNA : Hid (0 ≤ av ∧ av ≤ 4611686018427387904) := ⟨by omega, by omega⟩
          have HNN : Hid (0 ≤ nv ∧ nv ≤ 4611686018427387904) := ⟨by omega, by omega⟩
          have hfl : (St.logFirst av nv b).length ≤ 1000 := by
            have e1 := num_len (n := av) (by omega) (by omega)
            have e2 := num_len (n := nv) (by omega) (by omega)
            have e3 := num_len (n := (b.length : Int)) (by omega) (by have := HZN.out; omega)
            have hcr := crc_le b
            have e4 := num_len (n := ((St.crc b : Nat) : Int)) (by omega) (by omega)
            unfold St.logFirst
            simp only [List.length_append, St.close_len, List.length_cons, List.length_nil]
            omega
          have HFL := Lib.hid hfl
          clear hfl hrow hb hik hi1 hbz hzb hor
          go_wp2_with (first
            | (go_at_call 94; (with_reducible refine (HNE.out _).mono ?_); rintro e w8 ⟨rfl, rfl⟩)
            | (go_at_call 98; refine (walFirst_any (w := wr) (N := W7.heap.size) (b := b) av nv HNA.out HNN.out HR.out (by have := HBZ.out; have := HZN.out; omega) (HT.out.below HWB.out)).mono ?_; rintro e w8 ⟨v8, rfl, hr8, hb8⟩; obtain ⟨a8, c8, rfl, _⟩ := hr8.form; have HR8 := Lib.hid hr8; have HB8 := Lib.hid hb8; clear hr8 hb8)
            | (go_at_call 148; refine (walIs_any (w := w8) (s := s0) (b := St.logFirst av nv b) (HSR.out.below HB8.out) (BytesIn.row HR8.out) (by rw [HSL.out]; omega) (by have := HFL.out; omega)).mono ?_; rintro e w9 ⟨rfl, hb9⟩; have HB9 := Lib.hid hb9; clear hb9))
          refine bodyPost_ret (v := .tuple #[.slice bo b.length bc, .int .i64 nd, .bool (isB s0 (St.logFirst av nv b)), .int .i64 0]) (by simp [results, Tryz.results107, go_sem]) rfl ⟨(HWB.out.trans (HB8.out.mono HWB.out.size)).trans (HB9.out.mono (Nat.le_trans HWB.out.size HB8.out.size)), _, _, _, rfl, ?_⟩
          rw [hyes.out, isB_head HSL.out]
          by_cases hh : s0 = St.pad (St.logFirst av nv b) ∧ (St.logFirst av nv b).length ≤ 512
          · rw [show finR s0 av nv (some b) = some b from if_pos hh]
            have hr9 := (HR.out.below HB8.out).below HB9.out
            exact ⟨decide_eq_true hh, by rw [HBZ.out, HND.out], hr9.1, fun k hk => Nat.le_trans HB7.out.size (hr9.2 k hk)⟩
          · rw [show finR s0 av nv (some b) = none from if_neg hh]
            exact decide_eq_false hh
        · obtain ⟨k, rfl⟩ : ∃ k, gk = k + 1 := ⟨gk - 1, by omega⟩
          rw [St.parts] at hpt
          have hij : at' + i < count := by have := G4.out; omega
          have HRX := Lib.hid (HRA.out wr HWB.out i hij)
          have HXL := Lib.hid (HNOW.out i hij)
          obtain ⟨sx, hsx⟩ : ∃ sx, D.now (first + (at' + i)) = sx := ⟨_, rfl⟩
          rw [hsx] at hpt HRX HXL
          rw [Int.natCast_add] at HRX
          obtain ⟨c2, rest2, hc2, htk2⟩ := take_one HXL.out
          obtain ⟨m, hm⟩ : ∃ m, min 511 (zn - b.length) = m := ⟨_, rfl⟩
          rw [hm] at hpt
          have hm1 : 1 ≤ m ∧ m ≤ 511 ∧ b.length + m ≤ zn ∧ (m = 511 ∨ b.length + m = zn) := by omega
          have hwr : IntKind.i64.wrap ((at' : Int) + (i : Int)) = (at' : Int) + (i : Int) := by rw [IntKind.wrap_i64]; omega
          have hwz : IntKind.i64.wrap ((zn : Int) - (b.length : Int)) = (zn : Int) - (b.length : Int) := by rw [IntKind.wrap_i64]; have := HZN.out; omega
          have hmi : min (511 : Int) ((zn : Int) - (b.length : Int)) = (m : Int) := by omega
          have g1 : (i : Int) < (nd : Int) := by omega
          have HM1 := Lib.hid hm1
          have HM := Lib.hid hm
          have HPT := Lib.hid hpt
          have HTK := Lib.hid htk2
          have HC2 := Lib.hid hc2
          have HIK := Lib.hid hik
          have HOR := Lib.hid hor
          have HI1 := Lib.hid hi1
          have HZB := Lib.hid hzb
          obtain ⟨d0, d1, d2, d5⟩ := HSS.out wr HWB.out
          clear hm1 hm hpt htk2 hc2 hsx hrow hb hij hik hor hi1 hzb hbz hk
          go_wp2_with (go_at_call 94; (with_reducible refine (HNE.out _).mono ?_); rintro e w8 ⟨rfl, rfl⟩)
          go_region_held3 (fun X => X.cell? ⟨p, 0, none⟩ = some (.pointer (some ⟨g, 0, none⟩)) ∧ X.cell? ⟨p, 1, none⟩ = some (.int .i64 first) ∧ X.cell? ⟨p, 2, none⟩ = some (.int .i64 count) ∧ X.cell? ⟨p, 5, none⟩ = some (.int .i64 at'))
            (first | exact HSS.out _ HWB.out.drew | exact HSS.out _ HB8.out)
            (first | (go_at_call 105; refine HRX.out.mono ?_; rintro e w8 ⟨v8, rfl, hr8, hb8⟩; obtain ⟨g8, p8, hv8, hg8⟩ := hr8.shape (by rw [HC2.out]; simp); subst hv8; have k1 := hr8.1.cellAt 0 (by rw [bvals_length, HXL.out]; omega); have HR8 := Lib.hid hr8; have HY8 : Hid (Below wr.heap.size wr w8) := (Below.refl _ _).drew.trans hb8; have HB8 : Hid (Below w.heap.size w w8) := HWB.out.trans (HY8.out.mono HWB.out.size); clear hr8 hb8 hg8))
          have hx0 : 0 < sx.length := by rw [HXL.out]; omega
          have hx1 : (0 : Int) < (sx.length : Int) := by omega
          have hw1 : IntKind.i64.wrap ((1 : Int) + (m : Int)) = (1 : Int) + (m : Int) := by rw [IntKind.wrap_i64]; have := HM1.out; omega
          by_cases h68 : c2 = 68
          · replace k1 : w8.cell? ⟨g8, 0, none⟩ = some (.int .u8 68) := by
              rw [k1, HC2.out, h68]
              rfl
            have hm512 : 1 + m ≤ sx.length := by rw [HXL.out]; have := HM1.out; omega
            obtain ⟨a1, e1, hs1, hp1⟩ := slice_h (BytesIn.row HR8.out) (1 + m) hm512
            have hs1' : ∀ W, (Instr.slice 44 (.slice (some ⟨g8, 0, none⟩) sx.length p8) none (some (.int .i64 ((1 : Int) + (m : Int)))) none).run Tryz.prog W = .ok (.slice a1 (1 + m) e1) W := fun W => by
              have := hs1 W
              rwa [show ((1 + m : Nat) : Int) = (1 : Int) + (m : Int) by push_cast; rfl] at this
            obtain ⟨a2, e2, hs2, hp2⟩ := slice_lh (BytesIn.row HR8.out) 1 m hm512
            have hs2' : ∀ W, (Instr.slice 44 (.slice (some ⟨g8, 0, none⟩) sx.length p8) (some (.int .i64 1)) (some (.int .i64 ((1 : Int) + (m : Int)))) none).run Tryz.prog W = .ok (.slice a2 m e2) W := fun W => by
              have := hs2 W
              rwa [show ((1 + m : Nat) : Int) = (1 : Int) + (m : Int) by push_cast; rfl] at this
            have HP1' := Lib.hid hp1
            have HP2' := Lib.hid hp2
            have HTL : Hid ((sx.take (1 + m)).length = 1 + m) := by show _ = _; rw [List.length_take]; omega
            have HDR : Hid (((sx.drop 1).take m).length = m) := by show _ = _; rw [List.length_take, List.length_drop]; omega
            have HISB : Hid (isB sx (sx.take (1 + m)) = decide (sx = St.pad (sx.take (1 + m)))) := by
              show _ = _
              rw [isB_head HXL.out, Bool.eq_iff_iff, decide_eq_true_eq, decide_eq_true_eq]
              exact ⟨fun h => h.1, fun h => ⟨h, by rw [HTL.out, ← HXL.out]; exact hm512⟩⟩
            have HT1 : Hid (sx.take 1 = [68]) := (HTK.out 68).2 h68
            clear hs1 hs2 hp1 hp2 hm512 h68
            by_cases hpd : sx = St.pad (sx.take (1 + m))
            · have hpt := HPT.out
              rw [if_pos ⟨HT1.out, hpd⟩] at hpt
              have HPT2 := Lib.hid hpt
              have HIS : Hid (isB sx (sx.take (1 + m)) = true) := HISB.out.trans (decide_eq_true hpd)
              have hwi : IntKind.i64.wrap ((i : Int) + 1) = (i : Int) + 1 := by rw [IntKind.wrap_i64]; have := HIK.out; omega
              clear hpd hpt
              go_wp2_with (first
                | (go_at_call 148; refine (walIs_any (w := w8) (s := sx) (b := sx.take (1 + m)) (BytesIn.row HR8.out) (by have := HP1'.out; exact this) (by rw [HXL.out]; omega) (by rw [HTL.out]; have := HM1.out; omega)).mono ?_; rintro e w9 ⟨he, hb9⟩; rw [HIS.out] at he; subst he; have HB9 := Lib.hid hb9; clear hb9)
                | (at_builtin; refine wpList_appv (w := w9) (v := .slice bo b.length bc) rfl _ _ rfl rfl ((HR.out.below HY8.out).below HB9.out) rfl (l := (sx.drop 1).take m) (HP2'.out.below HB9.out) (fun h => by have e1 := HDR.out; rw [h] at e1; have := HM1.out; simp at e1; omega) (Nat.le_trans HB.out.size (Nat.le_trans HY8.out.size HB9.out.size)) (by rw [HDR.out]; have := HM1.out; have := HZN.out; omega) ?_; intro v10 w10 hr10 ho10; obtain ⟨bb, hbb⟩ : ∃ bb, b ++ (sx.drop 1).take m = bb := ⟨_, rfl⟩; rw [hbb] at hr10; have HBB := Lib.hid hbb; clear hbb; obtain ⟨a10, c10, rfl, _⟩ := hr10.form; have HR10 := Lib.hid hr10; have HO10 := Lib.hid ho10; clear hr10 ho10))
              go_roundg k
              case measure => omega
              case rel =>
                have hbb : Below W7.heap.size W7 w9 := (HB.out.trans (HY8.out.mono HB.out.size)).trans (HB9.out.mono (Nat.le_trans HB.out.size HY8.out.size))
                have e2 := HDR.out
                have e3 := HM1.out
                have e4 := HIK.out
                have e5 := HOR.out
                have e6 := HZB.out
                have e7 : bb.length = b.length + m := by rw [← HBB.out, List.length_append, e2]
                refine ⟨bb, i + 1, HR10.out, by go_num, by omega, by omega, ?_, by omega, by omega, by omega, hbb.trans (HO10.out.1.below hbb.size (fun x hx => HR.out.2 x (by simpa using hx)))⟩
                have := HPT2.out
                rw [List.drop_take, show 1 + m - 1 = m by omega, HBB.out] at this
                exact this
            · have hno : Hid (out = none) := by
                have := HPT.out
                rw [if_neg (fun h => hpd h.2)] at this
                exact this.symm
              have HIS : Hid (isB sx (sx.take (1 + m)) = false) := HISB.out.trans (decide_eq_false hpd)
              clear hpd
              go_wp2_with (go_at_call 148; refine (walIs_any (w := w8) (s := sx) (b := sx.take (1 + m)) (BytesIn.row HR8.out) (by have := HP1'.out; exact this) (by rw [HXL.out]; omega) (by rw [HTL.out]; have := HM1.out; omega)).mono ?_; rintro e w9 ⟨he, hb9⟩; rw [HIS.out] at he; subst he; have HB9 := Lib.hid hb9; clear hb9)
              exact bodyPost_ret (v := .tuple #[.slice none 0 0, .int .i64 0, .bool false, .int .i64 0]) (by simp [results, Tryz.results107, go_sem]) rfl ⟨HB8.out.trans (HB9.out.mono HB8.out.size), _, _, _, rfl, by rw [hyes.out, hno.out]; rfl⟩
          · have hcb : ((c2.toNat : Int) == 68) = false := by
              rw [beq_eq_false_iff_ne]
              intro e
              exact h68 (UInt8.toNat_inj.1 (show c2.toNat = 68 by omega))
            have hcb2 : ((c2.toNat : Int) != 68) = true := by simpa using hcb
            replace k1 : w8.cell? ⟨g8, 0, none⟩ = some (.int .u8 (c2.toNat : Int)) := by
              rw [k1, HC2.out]
              rfl
            have hno : Hid (out = none) := by
              have := HPT.out
              rw [if_neg (fun h => h68 ((HTK.out 68).1 h.1))] at this
              exact this.symm
            clear h68
            go_wp2
            exact bodyPost_ret (v := .tuple #[.slice none 0 0, .int .i64 0, .bool false, .int .i64 0]) (by simp [results, Tryz.results107, go_sem]) rfl ⟨HB8.out, _, _, _, rfl, by rw [hyes.out, hno.out]; rfl⟩
  · have hrec : St.recordAt (fun i => D.now (first + i)) count age next at' = none := by
      unfold St.recordAt
      rw [if_neg]
      show ¬ (D.now (first + at')).take 1 = [72]
      rw [HS0.out, htk]
      exact hch
    rw [hrec]
    have hcb : ((ch.toNat : Int) == 72) = false := by
      rw [beq_eq_false_iff_ne]
      intro e
      exact hch (UInt8.toNat_inj.1 (show ch.toNat = 72 by omega))
    have hcb2 : ((ch.toNat : Int) != 72) = true := by simpa using hcb
    clear htk hch hrec
    go_enter Tryz.func107, Tryz.ntmps107
    go_wp2
    go_region_held3 (fun X => X.cell? ⟨p, 0, none⟩ = some (.pointer (some ⟨g, 0, none⟩)) ∧ X.cell? ⟨p, 1, none⟩ = some (.int .i64 first) ∧ X.cell? ⟨p, 2, none⟩ = some (.int .i64 count) ∧ X.cell? ⟨p, 5, none⟩ = some (.int .i64 at'))
      (first | exact HSS.out _ (Below.refl _ _).drew | exact HSS.out _ HB1.out)
      (first | (go_at_call 105; refine HRE.out.mono ?_; rintro e w1 ⟨v1, rfl, hr1, hb1⟩; obtain ⟨g1, p1, hv1, hg1⟩ := hr1.shape (by rw [HCR.out]; simp); subst hv1; have k0 := hr1.1.cellAt 0 (by rw [bvals_length, HSL.out]; omega); have HR1 := Lib.hid hr1; have HB1 : Hid (Below w.heap.size w w1) := (Below.refl _ _).drew.trans hb1; clear hr1 hb1 hg1))
    replace k0 : w1.cell? ⟨g1, 0, none⟩ = some (.int .u8 (ch.toNat : Int)) := by
      rw [k0, HCR.out]
      rfl
    have hl0 : 0 < s0.length := by rw [HSL.out]; omega
    have hl1 : (0 : Int) < (s0.length : Int) := by omega
    go_wp2
    exact bodyPost_ret (v := .tuple #[.slice none 0 0, .int .i64 0, .bool false, .int .i64 0]) (by simp [results, Tryz.results107, go_sem]) rfl ⟨HB1.out, _, _, _, rfl, rfl⟩
end Go.Proofs.YtcpgbekcbaelpaaGreatDoor
/- Layer 5: a log is opened. -/
namespace Go.Proofs.YtcpgbekcbaelpaaGreatDoor
open Go.RowKit Go.Maps Wr
set_option linter.unusedVariables false
set_option linter.unusedSimpArgs false
theorem records_no {s : Nat → List UInt8} {count : Nat} {age next : Int} {at' f : Nat} (h : ¬ at' < count) : St.records s count age f next at' = ([], next, at') := by
  cases f with
  | zero => rw [St.records]
  | succ f => rw [St.records, if_neg h]
theorem records_none {s : Nat → List UInt8} {count : Nat} {age next : Int} {at' f : Nat} (h : at' < count) (hr : St.recordAt s count age next at' = none) : St.records s count age (f + 1) next at' = ([], next, at') := by
  rw [St.records, if_pos h, hr]
theorem records_some {s : Nat → List UInt8} {count : Nat} {age next : Int} {at' f : Nat} {b : List UInt8} (h : at' < count) (hr : St.recordAt s count age next at' = some b) :
    St.records s count age (f + 1) next at' = (b :: (St.records s count age f (next + 1) (at' + St.need b.length)).1, (St.records s count age f (next + 1) (at' + St.need b.length)).2) := by
  rw [St.records, if_pos h, hr]
theorem parts_len2 (s : Nat → List UInt8) : ∀ (f k size : Nat) (b out : List UInt8), (∀ j, k ≤ j → j < k + f → (s j).length = 512) → size ≤ b.length + 511 * f → b.length ≤ size → St.parts s f k size b = some out → out.length = size
  | 0, k, size, b, out, _, h1, h2, h => by
    rw [St.parts] at h
    cases h
    omega
  | f + 1, k, size, b, out, hs, h1, h2, h => by
    rw [St.parts] at h
    split at h
    · have hl : (b ++ ((s k).take (1 + min 511 (size - b.length))).drop 1).length = b.length + min 511 (size - b.length) := by
        rw [List.length_append, List.length_drop, List.length_take, hs k (Nat.le_refl _) (by omega)]
        omega
      exact parts_len2 s f _ _ _ _ (fun j h1 h2 => hs j (by omega) (by omega)) (by rw [hl]; omega) (by rw [hl]; omega) h
    · cases h
theorem recordAt_need {s : Nat → List UInt8} {count : Nat} {age next : Int} {at' : Nat} {b : List UInt8} (hs : ∀ j, j < count → (s j).length = 512) (h : St.recordAt s count age next at' = some b) : at' + St.need b.length ≤ count := by
  unfold St.recordAt at h
  split at h
  · dsimp only at h
    split at h
    · cases h
    · rename_i hc
      simp only [not_or, Nat.not_lt] at hc
      split at h
      · cases h
      · rename_i b' hp
        split at h
        · cases h
          have hn := hc.2.2.2
          have := parts_len2 s _ _ _ _ _ (fun j h1 h2 => hs j (by unfold St.need at hn h2; omega)) (by unfold St.need; simp; omega) (Nat.zero_le _) hp
          rw [this]
          exact hn
        · cases h
  · cases h
theorem ageOf_bounds (s : List UInt8) : 0 ≤ St.ageOf s ∧ St.ageOf s ≤ 4611686018427387904 := by
  have hm : St.mostAge = 4611686018427387904 := rfl
  have := rn_bounds (lo := 1) (hi := St.mostAge) (s.drop 2) 0 (by decide)
  unfold St.ageOf
  split
  · split
    · omega
    · omega
  · omega
def ageI (a b : Int) : Nat → Int
  | 0 => 0
  | 1 => max 0 a
  | _ => max (max 0 a) b
def OpnI (W1 : World) (g p count : Nat) (a b : Int) (k : Nat) (s30 : Value) (X : World) : Prop :=
  ∃ i : Nat, s30 = .int .i64 (i : Int) ∧ i + k = 2 ∧ X.heap[p]? = some (logO g ⟨2, count, ageI a b i, 0, 2⟩) ∧ Turn (fun k => k = p) W1 X
def OpnJ (W1 : World) (g p count : Nat) (s : Nat → List UInt8) (a : Int) (rt : List (List UInt8) × Int × Nat) (k : Nat) (s13 : Value) (X : World) : Prop :=
  ∃ (pre : List (List UInt8)) (next : Int) (at' : Nat), RBs X (p + 1) s13 pre ∧ rt = (pre ++ (St.records s count a k next at').1, (St.records s count a k next at').2) ∧ next + k = count ∧ 0 ≤ next ∧ at' ≤ count ∧ count ≤ at' + k ∧ pre.length + k = count ∧ X.heap[p]? = some (logO g ⟨2, count, a, next, at'⟩) ∧ Turn (fun k => k = p) W1 X
set_option maxRecDepth 100000 in
set_option maxHeartbeats 8000000 in
theorem walOpen_any {w : World} {g : Nat} {D : St.Dk} {M R : Nat → Prop} (h : DkAt w g D M R) (hT : Half w) (ho : D.off = false) (count : Nat) (h3 : 3 ≤ count) (hn : 2 + count ≤ D.last.length) {l : St.Lg} {rs : List (List UInt8)} (hok : (St.logOpen count D).1 = .ok (l, rs)) :
    Calls Tryz.prog 51 #[.pointer (some ⟨g, 0, none⟩), .int .i64 2, .int .i64 (count : Int)] w fun e w' => ∃ p v, e = .returned (.tuple #[.pointer (some ⟨p, 0, none⟩), v, .int .i64 0]) ∧ w.heap.size ≤ p ∧ w'.heap[p]? = some (logO g l) ∧ RBs w' (p + 1) v rs ∧ Below w.heap.size w w' := by
  have hlen := h.len
  obtain ⟨a, ha⟩ : ∃ a, ageI (St.ageOf (D.now 2)) (St.ageOf (D.now 3)) 2 = a := ⟨_, rfl⟩
  obtain ⟨rt, hrt⟩ : ∃ rt, St.records (fun i => D.now (2 + i)) count a count 0 2 = rt := ⟨_, rfl⟩
  have hopen : a ≠ 0 ∧ l = ⟨2, count, a, rt.2.1, rt.2.2⟩ ∧ rs = rt.1 := by
    unfold St.logOpen at hok
    rw [if_neg (by rw [ho]; decide)] at hok
    dsimp only at hok
    rw [show max (max 0 (St.ageOf (D.now 2))) (St.ageOf (D.now 3)) = a from ha] at hok
    by_cases h0 : a = 0
    · rw [if_pos h0] at hok; cases hok
    · rw [if_neg h0, hrt] at hok
      cases hok
      exact ⟨h0, rfl, rfl⟩
  obtain ⟨ha0, rfl, rfl⟩ := hopen
  have hag := fun i => ageOf_bounds (D.now i)
  have ham : 1 ≤ a ∧ a ≤ 4611686018427387904 := by
    have h2 := hag 2
    have h4 := hag 3
    have h5 : a = max (max 0 (St.ageOf (D.now 2))) (St.ageOf (D.now 3)) := ha.symm
    omega
  have HH := Lib.hid h
  have HT := Lib.hid hT
  have HO := Lib.hid ho
  have HN := Lib.hid hn
  have HA := Lib.hid ha
  have HRT := Lib.hid hrt
  have HAM := Lib.hid ham
  have HAG := Lib.hid hag
  have HNL : Hid (∀ i, i < D.last.length → (D.now i).length = 512) := fun i hi => h.now_len hi
  have hc : (count : Int) ≤ 65536 := by omega
  have HC : Hid (count ≤ 65536) := by show _ ≤ _; omega
  have HC3 := Lib.hid h3
  have hb1 : Below w.heap.size w (w.alloc (logO g ⟨2, count, 0, 0, 2⟩)) := (Below.refl _ w).alloc (Nat.le_refl _) _
  have hp1 : (w.alloc (logO g ⟨2, count, 0, 0, 2⟩)).heap[w.heap.size]? = some (logO g ⟨2, count, 0, 0, 2⟩) := heap_alloc_new _ _
  have hz1 : (w.alloc (logO g ⟨2, count, 0, 0, 2⟩)).heap.size = w.heap.size + 1 := by simp
  have HR := Lib.hid (walRight_any (h.below hb1) 2 count h3 hn)
  have HRA : Hid (∀ X, Turn (fun k => k = w.heap.size) (w.alloc (logO g ⟨2, count, 0, 0, 2⟩)) X → ∀ j : Nat, j < count → Calls Tryz.prog 105 #[.agg #[.pointer (some ⟨g, 0, none⟩), .int .i64 2, .int .i64 count], .int .i64 (j : Int)] X (ReadEnd X (D.now (2 + j)) 0)) := fun X hX j hj => by
    have hX2 : Below w.heap.size w X := hb1.trans (hX.below (by omega) (fun k hk => by omega))
    have := walRead_any (w := X) (h.below hX2) ((2 : Nat) : Int) (count : Int) (j : Int) (by omega) (by omega)
    rw [show ((2 : Nat) : Int) + (j : Int) = ((2 + j : Nat) : Int) by push_cast; rfl, read_on ho (by omega)] at this
    exact this
  have HRE : Hid (∀ X, Turn (fun k => k = w.heap.size) (w.alloc (logO g ⟨2, count, 0, 0, 2⟩)) X → ∀ (next : Int) (at' : Nat), X.heap[w.heap.size]? = some (logO g ⟨2, count, a, next, at'⟩) → at' < count → 0 ≤ next ∧ next ≤ 100000000 →
      Calls Tryz.prog 107 #[.pointer (some ⟨w.heap.size, 0, none⟩)] X (RecEnd X (St.recordAt (fun i => D.now (2 + i)) count a next at'))) := fun X hX next at' hp ha' hn' => by
    have hX2 : Below w.heap.size w X := hb1.trans (hX.below (by omega) (fun k hk => by omega))
    exact walRecord_any (l := ⟨2, count, a, next, at'⟩) (h.below hX2) hp (hT.below hX2) ho (by show 2 + count ≤ _; omega) ha' ⟨by show count ≤ _; omega, by show 2 ≤ _; omega⟩ ham hn'
  obtain ⟨c0, c1, c2, c3, c4, c5, cf⟩ := lgfull_cells hp1
  have HB1 := Lib.hid hb1
  have HP1 := Lib.hid hp1
  have HZ1 := Lib.hid hz1
  clear h hT ho hn hrt ham hag h3 hlen hb1 hp1 hz1 ha0 hok
  go_enter Tryz.func51, Tryz.ntmps51
  go_wp2_with (go_at_call 104; refine HR.out.mono ?_; rintro e w1 ⟨rfl, hb1⟩; have HB2 := Lib.hid hb1; clear hb1)
  have HI0 : Hid (OpnI (w.alloc (logO g ⟨2, count, 0, 0, 2⟩)) g w.heap.size count (St.ageOf (D.now 2)) (St.ageOf (D.now 3)) 2 (.int .i64 0) w1) := ⟨0, rfl, rfl, (HB2.out.block _ (by rw [HZ1.out]; omega)).trans HP1.out, Turn.of_below HB2.out⟩
  generalize hW1 : w.alloc (logO g ⟨2, count, 0, 0, 2⟩) = W1 at *
  clear c0 c1 c2 c3 c4 c5 cf hW1
  go_loopg [30] 2 (fun gk s30 wr => OpnI W1 g w.heap.size count (St.ageOf (D.now 2)) (St.ageOf (D.now 3)) gk s30 wr)
  case atStart => exact HI0.out
  case round =>
    clear HI0
    obtain ⟨i, rfl, hik, hpx, ht⟩ := hrel
    have HPX := Lib.hid hpx
    have HTX := Lib.hid ht
    have HIK := Lib.hid hik
    obtain ⟨c0, c1, c2, c3, c4, c5, cf⟩ := lgfull_cells hpx
    have hpl := lt_of_block hpx
    have HPL := Lib.hid hpl
    by_cases hlt : i < 2
    · have g1 : (i : Int) < 2 := by omega
      have HRX := Lib.hid (HRA.out wr ht i (by have := HC3.out; omega))
      have HXL := Lib.hid (HNL.out (2 + i) (by have := HN.out; have := HC3.out; omega))
      obtain ⟨sx, hsx⟩ : ∃ sx, D.now (2 + i) = sx := ⟨_, rfl⟩
      obtain ⟨ai, hai⟩ : ∃ ai, ageI (St.ageOf (D.now 2)) (St.ageOf (D.now 3)) i = ai := ⟨_, rfl⟩
      obtain ⟨ax, hax⟩ : ∃ ax, St.ageOf sx = ax := ⟨_, rfl⟩
      have hmx : ageI (St.ageOf (D.now 2)) (St.ageOf (D.now 3)) (i + 1) = max ai ax := by
        rw [← hai, ← hax, ← hsx]
        have : i = 0 ∨ i = 1 := by omega
        rcases this with rfl | rfl <;> rfl
      have HMX := Lib.hid hmx
      rw [hsx] at HRX HXL
      rw [hai] at c3 HPX
      have HAX := Lib.hid hax
      clear hpx ht hik hsx hai hax hmx hpl hlt
      go_wp2_with (go_at_call 105; refine HRX.out.mono ?_; rintro e w2 ⟨v2, rfl, hr2, hb2⟩; obtain ⟨a2, p2, rfl, _⟩ := hr2.form; have HR2 := Lib.hid hr2; have HB3 := Lib.hid hb2; clear hr2 hb2)
      have hp2 : w2.heap[w.heap.size]? = some (logO g ⟨2, count, ai, 0, 2⟩) := (HB3.out.block _ HPL.out).trans HPX.out
      have HP2 := Lib.hid hp2
      have HF2 : Hid (∀ X, Below w2.heap.size w2 X → X.cell? ⟨w.heap.size, 3, none⟩ = some (.int .i64 ai) ∧ X.frozen? ⟨w.heap.size, 3, none⟩ = false) := fun X hX => by
        have := lgfull_cells ((hX.block _ (lt_of_block HP2.out)).trans HP2.out)
        exact ⟨this.2.2.2.1, this.2.2.2.2.2.2 3⟩
      obtain ⟨d3, df⟩ := HF2.out w2.drew (Below.refl _ _).drew
      have hwb : Below w.heap.size w w2 := HB1.out.trans ((HTX.out.below (by have := HZ1.out; omega) (fun k hk => by omega)).trans (HB3.out.mono (by have := HPL.out; omega)))
      have HWB := Lib.hid hwb
      clear c0 c1 c2 c3 c4 c5 cf hp2 hwb
      go_region_law (first
        | (refine step_callw (by rfl) 106 #[.slice a2 sx.length p2] ?_ (walAgeOf_any ((BytesIn.row HR2.out).below (Below.refl _ _).drew) HXL.out (HT.out.below HWB.out.drew)) ?_; go_simp; rw [HAX.out]; rintro e w3 ⟨rfl, hb3⟩; refine ⟨.int .i64 ax, rfl, ?_⟩; have HB4 : Hid (Below w2.heap.size w2 w3) := (Below.refl _ _).drew.trans hb3; clear hb3; obtain ⟨e3, ef⟩ := HF2.out w3 HB4.out))
      all_goals
        go_wp2
        go_roundg (gk - 1)
        case measure => have := HIK.out; omega
        case rel =>
          have hp4 := (HB4.out.block _ (lt_of_block HP2.out)).trans HP2.out
          refine ⟨i + 1, by go_num, by have := HIK.out; omega, ?_, ?_⟩
          · rw [HMX.out]
            exact (dk_set hp4).trans rfl
          · exact ((HTX.out.thenBelow HB3.out).thenBelow HB4.out).setCell (.inl rfl) _
    · obtain rfl : i = 2 := by omega
      rw [HA.out] at c3 HPX
      have q0 : (a == 0) = false := by have := HAM.out; rw [beq_eq_false_iff_ne]; omega
      have g1 : ¬ (((2 : Nat) : Int) < 2) := by omega
      have HJ0 : Hid (OpnJ W1 g w.heap.size count (fun i => D.now (2 + i)) a rt count (.slice none 0 0) wr) := ⟨[], 0, 2, RBs.nil _ _, by rw [HRT.out]; rfl, by omega, by omega, by have := HC3.out; omega, by omega, by simp, HPX.out, HTX.out⟩
      clear hpx ht hik hlt hpl HPX HTX HIK HPL
      go_wp2
      go_loopg [13] count (fun gk s13 wr => OpnJ W1 g w.heap.size count (fun i => D.now (2 + i)) a rt gk s13 wr)
      case atStart => exact HJ0.out
      case round =>
        clear HJ0 c0 c1 c2 c3 c4 c5 cf
        rename World => wy
        obtain ⟨pre, next, at', hrb, hrt, hnx, hn0, hac, hca, hpl, hpx, ht⟩ := hrel
        obtain ⟨ob, oc, hv, _⟩ := hrb.form
        subst hv
        have HRB := Lib.hid hrb
        have HRT2 := Lib.hid hrt
        have HNX := Lib.hid hnx
        have HN0 := Lib.hid hn0
        have HCA := Lib.hid hca
        have HPX := Lib.hid hpx
        have HTX := Lib.hid ht
        have HPR := Lib.hid hpl
        obtain ⟨c0, c1, c2, c3, c4, c5, cf⟩ := lgfull_cells hpx
        have hpz := lt_of_block hpx
        have HPL := Lib.hid hpz
        have hwb : Below w.heap.size w wy := HB1.out.trans (ht.below (by have := HZ1.out; omega) (fun k hk => by omega))
        have HWB := Lib.hid hwb
        have hai : (at' : Int) ≤ 65536 := by have := HC.out; omega
        by_cases hlt : at' < count
        · have g1 : (at' : Int) < (count : Int) := by omega
          have HREX : Hid (∀ n, Calls Tryz.prog 107 #[.pointer (some ⟨w.heap.size, 0, none⟩)] (wy.drewN n) (RecEnd (wy.drewN n) (St.recordAt (fun i => D.now (2 + i)) count a next at'))) := fun n => HRE.out _ (ht.thenBelow (below_drewN (Below.refl _ _) n)) next at' hpx hlt ⟨hn0, by have := HC.out; omega⟩
          obtain ⟨gk', rfl⟩ : ∃ k, gk = k + 1 := ⟨gk - 1, by omega⟩
          have HLT := Lib.hid hlt
          obtain ⟨ro, hro⟩ : ∃ ro, St.recordAt (fun i => D.now (2 + i)) count a next at' = ro := ⟨_, rfl⟩
          rw [hro] at HREX
          clear hrb hrt hnx hn0 hac hca hpl hpx ht hpz hwb hlt
          cases ro with
          | none =>
            have HRT3 : Hid (rt = (pre, next, at')) := by
              show _ = _
              rw [HRT2.out, records_none HLT.out hro]
              simp
            clear hro
            go_wp2
            go_quiet (fail)
            go_wp2_with (go_at_call 107; refine (HREX.out _).mono ?_; rintro e w2 ⟨hb2, v2, n2, ok2, rfl, hok2⟩; subst hok2; have HB3 := Lib.hid hb2; clear hb2)
            have hb3 : Below wy.heap.size wy w2 := (below_drewN (Below.refl _ _) nq).trans HB3.out
            refine bodyPost_ret (v := .tuple #[.pointer (some ⟨w.heap.size, 0, none⟩), .slice ob pre.length oc, .int .i64 0]) (by simp [results, Tryz.results51, go_sem]) rfl ⟨_, _, rfl, Nat.le_refl _, ?_, ?_, HWB.out.trans (hb3.mono HWB.out.size)⟩
            · rw [HRT3.out]
              exact (hb3.block _ HPL.out).trans HPX.out
            · rw [HRT3.out]
              exact HRB.out.below hb3
          | some b =>
            have hnd := recordAt_need (fun j hj => HNL.out (2 + j) (by have := HN.out; omega)) hro
            have HRT3 : Hid (rt = (pre ++ [b] ++ (St.records (fun i => D.now (2 + i)) count a gk' (next + 1) (at' + St.need b.length)).1, (St.records (fun i => D.now (2 + i)) count a gk' (next + 1) (at' + St.need b.length)).2)) := by
              show _ = _
              rw [HRT2.out, records_some HLT.out hro]
              simp
            have hnd1 : 1 ≤ St.need b.length := by unfold St.need; omega
            obtain ⟨nd, hndd⟩ : ∃ nd, St.need b.length = nd := ⟨_, rfl⟩
            rw [hndd] at hnd HRT3 hnd1
            have HND := Lib.hid hnd
            have HNDD := Lib.hid hndd
            have HND1 := Lib.hid hnd1
            have hsw : IntKind.i64.wrap ((at' : Int) + (nd : Int)) = (at' : Int) + (nd : Int) := by rw [IntKind.wrap_i64]; have := HC.out; omega
            have hnw : IntKind.i64.wrap (next + 1) = next + 1 := by rw [IntKind.wrap_i64]; have := HC.out; have := HNX.out; have := HN0.out; omega
            clear hro hnd hndd hnd1
            go_wp2
            go_quiet (fail)
            go_wp2_with (first
              | (go_at_call 107; go_loud (refine (HREX.out _).mono ?_; rintro e w2 ⟨hb2, v2, n2, ok2, rfl, hok2, hn2, hr2⟩; rw [HNDD.out] at hn2; subst hok2 hn2; obtain ⟨a2, p2, rfl, _⟩ := hr2.form; have hb3 : Below wy.heap.size wy w2 := (below_drewN (Below.refl _ _) nq).trans hb2; have HB3 := Lib.hid hb3; have HR2 := Lib.hid hr2; obtain ⟨d0, d1, d2, d3, d4, d5, df⟩ := lgfull_cells ((hb3.block _ HPL.out).trans HPX.out); obtain ⟨xs, hxr, hxl, hxa⟩ := (HRB.out.below hb3).app (b := b) (x := .slice a2 b.length p2) (Nat.le_trans HPL.out hb3.size) (BIn.of_row hr2 (fun k hk => ⟨Nat.le_trans HPL.out hk, fun e => by have := (HRB.out.own e).2; have : wy.heap.size ≤ k := hk; omega⟩)); have HXR := Lib.hid hxr; have HXL := Lib.hid hxl; have HXA := Lib.hid hxa; clear hb2 hr2 hb3 hxr hxl hxa))
              | (at_builtin; (refine wpList_app _ rfl _ _ 112 rfl 44 (.slice none 0 0) 24 Tryz.underlying112 infoRow rfl (.slice ob pre.length oc) xs rfl (World.ownsRow.alloc HXR.out _) ⟨w2.heap.size, 0, none⟩ 1 1 [.slice a2 b.length p2] rfl (by omega) rfl (cell_one_new _ _ _) (by intro u hu; simp at hu; subst hu; rfl) (by have := HXL.out; have := HPR.out; have := HC.out; omega) (by omega) ?_); intro g9 cap9 w9 hr9 hg9 hl9; obtain ⟨hrb9, ht9⟩ := HXA.out _ _ _ _ hr9 hg9 hl9; have HRB9 := Lib.hid hrb9; have HT9 := Lib.hid ht9; have hne : ¬ ((Value.slice ob pre.length oc).ownBlock = some w.heap.size) := fun e => (Nat.lt_irrefl _ (HRB.out.own e).1); have hp9 := (ht9.block _ (Nat.lt_of_lt_of_le HPL.out HB3.out.size) hne).trans ((HB3.out.block _ HPL.out).trans HPX.out); have HP9 := Lib.hid hp9; clear d0 d1 d2 d3 d4 d5 df; obtain ⟨d0, d1, d2, d3, d4, d5, df⟩ := lgfull_cells hp9; clear hr9 hg9 hl9 hrb9 ht9 hne hp9))
            go_roundg gk'
            case measure => omega
            case rel =>
              have hxl := HXL.out
              have e0 : xs.length + 1 = (pre ++ [b]).length := by rw [List.length_append, hxl]; rfl
              have tp : ∀ (u v : Value), Turn (fun k => k = w.heap.size) w9 ((w9.setCell ⟨w.heap.size, 5, none⟩ u).setCell ⟨w.heap.size, 4, none⟩ v) := fun u v => Turn.setCell (M := fun k => k = w.heap.size) (Turn.setCell (M := fun k => k = w.heap.size) (Turn.refl _ _) (p := ⟨w.heap.size, 5, none⟩) (.inl rfl) u) (p := ⟨w.heap.size, 4, none⟩) (.inl rfl) v
              refine ⟨pre ++ [b], next + 1, at' + nd, HRB9.out.turn (tp _ _) (fun k h1 _ e => by omega), HRT3.out, by have := HNX.out; omega, by have := HN0.out; omega, HND.out, by have := HCA.out; have := HND1.out; omega, by rw [List.length_append]; have := HPR.out; simp; omega, ?_, ?_⟩
              · have := dk_set (o := 4) (u := .int .i64 (next + 1)) (dk_set (o := 5) (u := .int .i64 ((at' : Int) + (nd : Int))) HP9.out)
                exact this.trans rfl
              · refine ((HTX.out.thenBelow HB3.out).trans HT9.out (fun k hk => .inr ?_)).trans (tp _ _) (fun k hk => .inl hk)
                have h1 := (HRB.out.own hk).1
                have h2 := HZ1.out
                omega
        · have g1 : ¬ (at' : Int) < (count : Int) := by omega
          have HRT3 : Hid (rt = (pre, next, at')) := by
            show _ = _
            rw [HRT2.out, records_no hlt]
            simp
          clear hrb hrt hnx hn0 hac hca hpl hpx ht hpz hwb hlt
          go_wp2
          go_quiet (fail)
          go_wp2
          refine bodyPost_ret (v := .tuple #[.pointer (some ⟨w.heap.size, 0, none⟩), .slice ob pre.length oc, .int .i64 0]) (by simp [results, Tryz.results51, go_sem]) rfl ⟨_, _, rfl, Nat.le_refl _, ?_, ?_, HWB.out.trans ((below_drewN (Below.refl _ _) nq).mono HWB.out.size)⟩
          · rw [HRT3.out]
            exact HPX.out
          · rw [HRT3.out]
            exact HRB.out.below (below_drewN (Below.refl _ _) nq)
end Go.Proofs.YtcpgbekcbaelpaaGreatDoor
