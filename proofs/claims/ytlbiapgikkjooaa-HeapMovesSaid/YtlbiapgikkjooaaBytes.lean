/- What the calls of a heap come to, twelfth part: Bytes. -/
import Derived.Test.YtlbiapgikkjooaaRaw2
import Derived.Laws.MakeOwn
import Derived.Laws.OwnMore
namespace Go.Proofs.Ytlbiapgikkjooaa
open Go.RowKit Go.Maps Hp
set_option linter.unusedSimpArgs false
set_option linter.unusedVariables false
set_option linter.unusedSectionVars false

theorem infoB : (Try.prog.info? 5).map (fun i => (i.zero, i.size, i.bytes)) = some (some (.int .u8 0), 1, 1) := by kernel_rfl
/-- 'make([]byte, n)'. -/
theorem run_make_bytes (n : Nat) (hn : n ≤ 1000000000) (w : World) : (Instr.makeSlice 50 (.int .i64 (n : Int)) (.int .i64 (n : Int))).run Try.prog w = .ok (.slice (some ⟨w.heap.size, 0, none⟩) n n) (w.alloc (.cells (madeCells #[.int .u8 0] n) 5)) := by
  obtain ⟨i0, hi, hz0, hz1, hz2⟩ := info_parts infoB
  have := run_make (P := Try.prog) w 50 5 i0 (.int .u8 0) Try.underlying50 hi hz0 .i64 .i64 n n (by omega) (Int.le_refl _) (by rw [hz2]; omega) (by omega)
  rw [hz1, Int.toNat_natCast, Nat.mul_one] at this
  exact this
def bvals (l : List UInt8) : List Value := l.map fun b => Value.int .u8 (b.toNat : Int)
theorem row_made_bytes (n : Nat) (hn : n ≤ 1000000000) (w : World) : Row (w.alloc (.cells (madeCells #[.int .u8 0] n) 5)) 5 (.slice (some ⟨w.heap.size, 0, none⟩) n n) (List.replicate n (.int .u8 0)) := by
  have hsz : (madeCells #[Value.int .u8 0] n).size = n := by simp [madeCells]
  have h := World.ownsRow_lit (base := 0) (e := 5) (size := 1) w (madeCells #[.int .u8 0] n) n (Nat.zero_le _) (by unfold maxLen; omega) (by rw [hsz, Nat.mul_one])
  have e : (madeCells #[Value.int .u8 0] n).toList = List.replicate n (.int .u8 0) := by
    apply List.ext_getElem (by simp [madeCells])
    intro j h1 h2
    simp [madeCells, Nat.mod_one]
  rw [e] at h
  unfold Row
  rw [List.length_replicate]
  exact h

section
variable {A : AH} {φ : Nat → Nat} {w w' : World} {p bp np lim : Nat} {vc vs : Value} {cells stack : List Int} {pins : Int → Option Int}

/-- While the bytes are copied. -/
def ByteFill (N : Nat) (W : World) (g : Nat) (l : List UInt8) (k : Nat) (s : Value) (w : World) : Prop :=
  ∃ i : Nat, s = .int .i64 i ∧ i + k = l.length ∧ Row w 5 (.slice (some ⟨g, 0, none⟩) l.length l.length) (bvals (l.take i) ++ List.replicate (l.length - i) (.int .u8 0)) ∧ Below N W w
theorem byteFill_next {N : Nat} {W wr : World} {g i k : Nat} {l : List UInt8} {v : Int} (hg : N ≤ g) (hN : N ≤ W.heap.size) (hr : Row wr 5 (.slice (some ⟨g, 0, none⟩) l.length l.length) (bvals (l.take i) ++ List.replicate (l.length - i) (.int .u8 0))) (hb : Below N W wr)
    (hi : i < l.length) (hk : i + 1 + k = l.length) (hv : v = ((l[i]).toNat : Int)) (n : Nat) : ByteFill N W g l k (.int .i64 ((i : Int) + 1)) ((wr.drewN n).setCell ⟨g, i, none⟩ (.int .u8 v)) := by
  subst hv
  refine ⟨i + 1, rfl, hk, ?_, ?_⟩
  · have h1 := hr.chg ((Chg.refl [] _).drewN n) (by simp)
    have h2 := h1.stored i (.int .u8 ((l[i]).toNat : Int))
    have e : (bvals (l.take i) ++ List.replicate (l.length - i) (Value.int .u8 0)).set i (.int .u8 ((l[i]).toNat : Int)) = bvals (l.take (i + 1)) ++ List.replicate (l.length - (i + 1)) (Value.int .u8 0) := by
      rw [List.set_append_right _ _ (by simp [bvals]; omega)]
      have e1 : (bvals (l.take i)).length = i := by simp [bvals]; omega
      rw [e1, Nat.sub_self, show l.length - i = (l.length - (i + 1)) + 1 by omega, List.replicate_succ, List.set_cons_zero, List.take_succ_eq_append_getElem hi]
      simp only [bvals, List.map_append, List.map_cons, List.map_nil, List.append_assoc, List.cons_append, List.nil_append]
    rw [e] at h2
    exact h2
  · exact (hb.trans (((Chg.refl [] wr).drewN n).below (Nat.le_trans hN hb.size) (by simp))).setCell hg _

theorem bytes_imm (x : Int) (hx : x % 2 = 1) : Calls Try.prog 30 #[.pointer (some ⟨p, 0, none⟩), .int .i64 x] w fun e w' => e = .returned (.string ⟨#[]⟩) ∧ ∃ n, w' = w.drewN n := by
  have HI : ∀ w, Calls Try.prog 51 #[.pointer (some ⟨p, 0, none⟩), .int .i64 x] w fun e w' => e = .returned (.tuple #[.int .i64 0, .bool false]) ∧ ∃ n, w' = w.drewN n := fun w => head_imm w p x hx
  have HI2 := Lib.hid HI
  clear HI hx
  go_enter Try.func30, Try.ntmps30
  go_wp2_with (go_at_call 51; refine (HI2.out _).mono ?_; rintro e w' ⟨rfl, n, rfl⟩)
  go_ret
  exact ⟨rfl, _, rfl⟩

theorem bytes_fields (h : HeapIs w p bp np vc vs lim cells stack pins) (hl : cells.length ≤ 4194304) (a : Nat) (o : Ob) (hc : cells[a]? = some (head o)) (hh : HeadIs (head o) o) (hr : o.raw = false) :
    Calls Try.prog 30 #[.pointer (some ⟨p, 0, none⟩), .int .i64 (2 * (a : Int))] w fun e w' => e = .returned (.string ⟨#[]⟩) ∧ ∃ n, w' = w.drewN n := by
  have K : (bits .and .i64 (head o) 1024 == 0) = true := by rw [hh.raw, hr]; rfl
  have HI2 := Lib.hid (head_any h hl a _ hc)
  clear h hc hh hr
  go_enter Try.func30, Try.ntmps30
  go_wp2_with (go_at_call 51; refine (HI2.out).mono ?_; rintro e w' ⟨rfl, n, rfl⟩)
  go_ret
  exact ⟨rfl, _, rfl⟩

theorem bytes_raw (h : HeapIs w p bp np vc vs lim cells stack pins) (hl : cells.length ≤ 4194304) (a : Nat) (o : Ob) (hc : cells[a]? = some (head o)) (hh : HeadIs (head o) o) (hr : o.raw = true) (ho : Holds cells a (enc (fun _ => 0) o)) :
    Calls Try.prog 30 #[.pointer (some ⟨p, 0, none⟩), .int .i64 (2 * (a : Int))] w fun e w' => e = .returned (.string ⟨o.bytes.toArray⟩) ∧ Below w.heap.size w w' := by
  have K : (bits .and .i64 (head o) 1024 == 0) = false := by rw [hh.raw, hr]; rfl
  have hcnt := hh.count
  rw [hr] at hcnt
  simp only [if_true] at hcnt
  have HI2 := Lib.hid (head_any h hl a _ hc)
  have hsm := hh.small
  have hps := hh.pos
  have HB : Hid (∀ i, (hi : i < o.bytes.length) → ∃ x, cells[a + 1 + i / 8]? = some x ∧ IntKind.u8.wrap (x / 2 ^ (8 * (i % 8))) = ((o.bytes[i]).toNat : Int)) := fun i hi => by
    have h1 := pack_get o.bytes.length o.bytes (i / 8) (Nat.le_refl _) (by omega)
    have h2 : (enc (fun _ => 0) o)[1 + i / 8]? = some (signed64 (packOne (chunk o.bytes (i / 8)))) := by
      unfold enc body; rw [hr, Nat.add_comm 1, List.getElem?_cons_succ, if_pos rfl]; exact h1
    have h3 := holds_get ho h2
    rw [← Nat.add_assoc] at h3
    refine ⟨_, h3, ?_⟩
    have h4 := signed_get (chunk o.bytes (i / 8)) (by unfold chunk; rw [List.length_take]; omega) (i % 8) (by omega)
    have h5 : (chunk o.bytes (i / 8))[i % 8]? = some o.bytes[i] := by
      unfold chunk
      rw [List.getElem?_take_of_lt (by omega), List.getElem?_drop, show 8 * (i / 8) + i % 8 = i by omega, List.getElem?_eq_getElem hi]
    rw [h5] at h4
    show _ % 256 = _
    rw [Int.pow_mul, show (2 : Int) ^ 8 = 256 from by decide]
    exact h4
  have hlen : o.bytes.length ≤ 50000000 := by
    have := hh.small; rw [show o.bytes.length = (head o / 2048).toNat by omega]; omega
  have hmk := fun w => run_make_bytes o.bytes.length (by omega) w
  have H := Lib.hid h
  clear h hc hh hr ho
  generalize head o = hd at *
  go_enter Try.func30, Try.ntmps30
  go_wp2_with (go_at_call 51; refine (HI2.out).mono ?_; rintro e w' ⟨rfl, n, rfl⟩)
  have HL : Hid (ByteFill w.heap.size w (w.drewN n).heap.size o.bytes o.bytes.length (.int .i64 0) ((w.drewN n).alloc (.cells (madeCells #[.int .u8 0] o.bytes.length) 5))) :=
    ⟨0, rfl, by omega, by rw [List.take_zero]; exact row_made_bytes _ (by omega) _, ((((Chg.refl [] w).drewN n).below (Nat.le_refl _) (by simp)).alloc (Nat.le_refl _) _)⟩
  clear hmk
  have hcells : ∀ i, (hi : i < o.bytes.length) → ∃ x, cells[a + 1 + i / 8]? = some x ∧ IntKind.u8.wrap (x / 2 ^ (8 * (i % 8))) = ((o.bytes[i]).toNat : Int) := HB.out
  go_loopg [29] o.bytes.length (fun k s wr => ByteFill w.heap.size w (w.drewN n).heap.size o.bytes k s wr)
  case atStart => exact HL.out
  case round =>
    clear HL
    obtain ⟨i, rfl, hik, hrow, hbe⟩ := hrel
    have HR := Lib.hid hrow
    have HBe := Lib.hid hbe
    clear hrow hbe
    by_cases hlt : i < o.bytes.length
    · obtain ⟨x, hx, hxb⟩ := hcells i hlt
      have hH := H.out.below HBe.out (fun k hk => H.out.foot_lt hk)
      have hxl := (List.getElem?_eq_some_iff.1 hx).1
      obtain ⟨g, cap, hvc, hcap, _, _, hat⟩ := hH.cellsAt (by intro e; rw [e] at hxl; simp at hxl)
      have c1 := hH.c1
      rw [hvc] at c1
      have cx := hat _ _ hx
      have cg : wr.cell? ⟨w.heap.size, i, none⟩ = some (.int .u8 0) := by
        have := HR.out.cellAt i (by simp [bvals]; omega)
        have e1 : (bvals (o.bytes.take i)).length = i := by simp [bvals]; omega
        rw [List.getElem?_append_right (by omega), e1, Nat.sub_self, List.getElem?_replicate, if_pos (by omega)] at this
        exact this
      have fg : wr.frozen? ⟨w.heap.size, i, none⟩ = false := HR.out.frozenAt i
      have e1 : ((a : Int) + 1 + (i : Int) / 8).toNat = a + 1 + i / 8 := by omega
      have hb1 : 0 ≤ (a : Int) + 1 + (i : Int) / 8 := by omega
      have hb2 : (a : Int) + 1 + (i : Int) / 8 < (cells.length : Int) := by omega
      have e3 : (8 * ((i : Int) % 8)).toNat = 8 * (i % 8) := by omega
      clear hat hH hx hvc
      have HX := Lib.hid hxb
      clear hxb
      go_wp2
      refine region_tail 20 (by kernel_rfl) (by kernel_rfl) ?_
      simp only [List.take_succ_cons, List.take_zero, List.drop_succ_cons, List.drop_zero]
      repeat (refine wpStill_step (fun K hK => ?_); go_simp; (try go_bits); (first | (refine hK _ ?_; clear hK K) | (refine ⟨_, st (at_of _ _), hK _ ?_⟩; clear hK K)))
      refine wpStill_nil ?_
      go_wp2
      go_roundg (gk - 1)
      case measure => omega
      case rel => exact byteFill_next (N := w.heap.size) (W := w) (g := w.heap.size) (k := gk - 1) (Nat.le_refl _) (Nat.le_refl _) HR.out HBe.out hlt (by omega) HX.out _
    · obtain rfl : i = o.bytes.length := by omega
      have hcv : (convert 50 9 (.slice (some ⟨w.heap.size, 0, none⟩) o.bytes.length o.bytes.length)).run Try.prog wr = .ok (.string ⟨o.bytes.toArray⟩) wr :=
        run_convert_bytes_back wr 50 9 5 ⟨w.heap.size, 0, none⟩ o.bytes.length o.bytes Try.underlying50 Try.underlying5 Try.underlying9 (fun j hj => by
          have := HR.out.cellAt j (by simp [bvals]; omega)
          rw [List.getElem?_append_left (by simp [bvals]; omega)] at this
          simp only [bvals, List.take_length, List.getElem?_map] at this
          rw [List.getElem?_eq_getElem hj] at this
          rw [show (Addr.add ⟨w.heap.size, 0, none⟩ j) = ⟨w.heap.size, j, none⟩ by unfold Addr.add; split <;> simp_all]
          simpa using this)
      go_wp2
      go_ret
      exact ⟨rfl, HBe.out⟩
end
end Go.Proofs.Ytlbiapgikkjooaa
