/- What the listed tables and variables give the walks of layer 10; a world that meets the condition. -/
import Derived.Test.YtlailomhgipppaaGreatDoorRows
import Derived.Test.YtlailomhgipppaaGreatDoorLexPlain
import Derived.Lib.LaidTab
import Derived.LaidLaws
import Derived.LaidHandle
import Derived.LaidMore
import Derived.MakeChecks
import Derived.Stop.Joined
import Derived.ProofKit
import Derived.Lay
import Derived.Deep.Strs
namespace Go.Proofs.YtlailomhgipppaaGreatDoor
open Go.ChangeShapes Go.WideShapes Go.ChangeAt Go.RowKit
set_option linter.unusedVariables false
set_option linter.unusedSimpArgs false

def laid3 : List (String × DataW Unit) := [("math/bits.deBruijn32tab", Rows.laid_math_bits_deBruijn32tab), ("math/bits.deBruijn64tab", Rows.laid_math_bits_deBruijn64tab), ("internal/strconv.float32info", Rows.laid_internal_strconv_float32info), ("internal/strconv.float64info", Rows.laid_internal_strconv_float64info), ("internal/strconv.optimize", Rows.laid_internal_strconv_optimize), ("internal/strconv.powtab", Rows.laid_internal_strconv_powtab), ("internal/strconv.float64pow10", Rows.laid_internal_strconv_float64pow10), ("internal/strconv.float32pow10", Rows.laid_internal_strconv_float32pow10), ("internal/strconv.uint64pow10", Rows.laid_internal_strconv_uint64pow10), ("unicode/utf8.acceptRanges", Rows.laid_unicode_utf8_acceptRanges), ("strconv.ErrRange", Rows.laid_strconv_ErrRange), ("strconv.ErrSyntax", Rows.laid_strconv_ErrSyntax), ("internal/strconv.leftcheats", Rows.laid_internal_strconv_leftcheats), ("internal/strconv.pow10Tab", Rows.laid_internal_strconv_pow10Tab), ("unicode/utf8.first", Rows.laid_unicode_utf8_first)]
theorem door_met (os : Os) (args : Array Value) : laidMetH Tryz.prog laid3 ((World.laidAll Tryz.prog os laid3).forCall (fun _ _ => 0) ⟨#[], args, []⟩).memory := by
  rw [MakeChecks.laidMetH_plain _ _ _ (by kernel_rfl)]
  exact laidMet_laidAll _ (by kernel_rfl) (by kernel_rfl)
theorem trod_float_val {H : Type} {enc : TypeId × Value → H} {P : Program} {w : World} {base : Nat} {spare : Nat → Bool} {held : Bool} {fuel : Nat} {t : TypeId} {v : Value} {b : Nat} {p : List MemPlace}
    (ht : P.underlying t = some (.float .f64)) (h : DataW.trod enc P w base spare held fuel t [v] = some (.lit (.float .f64 b), p)) : v = .float .f64 b := by
  cases fuel with
  | zero => unfold DataW.trod at h; cases h
  | succ n =>
    unfold DataW.trod at h
    rw [ht] at h
    cases v <;> simp at h
    obtain ⟨⟨rfl, _⟩, rfl, _⟩ := h
    rfl
theorem trod_int_val {H : Type} {enc : TypeId × Value → H} {P : Program} {w : World} {base : Nat} {spare : Nat → Bool} {held : Bool} {fuel : Nat} {t : TypeId} {cs : List Value} {k : IntKind} {b : Int} {p : List MemPlace}
    (ht : P.underlying t = some (.int k)) (h : DataW.trod enc P w base spare held fuel t cs = some (.lit (.int k b), p)) : cs = [.int k b] := by
  obtain ⟨n, rfl, e, _⟩ := DataW.trod_int ht h
  simp at e
  rw [e.1]
theorem trod_bool_val {H : Type} {enc : TypeId × Value → H} {P : Program} {w : World} {base : Nat} {spare : Nat → Bool} {held : Bool} {fuel : Nat} {t : TypeId} {cs : List Value} {b : Bool} {p : List MemPlace}
    (ht : P.underlying t = some .bool) (h : DataW.trod enc P w base spare held fuel t cs = some (.lit (.bool b), p)) : cs = [.bool b] := by
  cases fuel with
  | zero => unfold DataW.trod at h; cases h
  | succ n =>
    unfold DataW.trod at h
    rw [ht] at h
    rcases cs with _ | ⟨c, _ | ⟨c', r⟩⟩
    · simp at h
    · cases c <;> simp at h
      rw [h.1]
    · simp at h
theorem iface_cells {H : Type} {enc : TypeId × Value → H} {P : Program} {w : World} {base : Nat} {spare : Nat → Bool} {held : Bool} {fuel : Nat} {t : TypeId} {ms : Array (String × TypeId)} {cs : List Value} {name : String} {x : DataW H} {p : List MemPlace}
    (ht : P.underlying t = some (.interface ms)) (h : DataW.trod enc P w base spare held fuel t cs = some (.iface name x, p)) : ∃ u v, cs = [.iface u v] := by
  cases fuel with
  | zero => unfold DataW.trod at h; cases h
  | succ fuel =>
    unfold DataW.trod at h
    rw [ht] at h
    rcases cs with _ | ⟨c, _ | ⟨c', r⟩⟩
    · simp at h
    · cases c <;> first | exact ⟨_, _, rfl⟩ | simp at h
    · simp at h
structure Laid (W : World) : Prop where
  ft : FTab W
  err : ErrVar W
def pow10Bits : List Nat := [4607182418800017408, 4621819117588971520, 4636737291354636288, 4652007308841189376, 4666723172467343360, 4681608360884174848, 4696837146684686336, 4711630319722168320, 4726483295884279808, 4741671816366391296, 4756540486875873280, 4771362005757984768, 4786511204640096256, 4801453603149578240, 4816244402031689728, 4831355200913801216, 4846369599423283200, 4861130398305394688, 4876203697187506176, 4891288408196988160, 4906019910204099648, 4921056587992461136, 4936209963552724370]
theorem pow10Bits_get : ∀ k, k ≤ 15 → pow10Bits[k]? = some (fw (10 ^ k)) := by
  have : ∀ k : Fin 16, pow10Bits[k.val]? = some (fw (10 ^ k.val)) := by decide +kernel
  exact fun k hk => this ⟨k, by omega⟩
set_option maxRecDepth 100000 in
theorem of_laid {W : World} (h : laidMetH Tryz.prog laid3 W) : Laid W := by
  rw [MakeChecks.laidMetH_plain _ _ _ (by kernel_rfl)] at h
  obtain ⟨ps, ⟨g0, t0, cs0, f0, p0, q0, hg0, ht0, hv0, hd0, ⟨g1, t1, cs1, f1, p1, q1, hg1, ht1, hv1, hd1, ⟨g2, t2, cs2, f2, p2, q2, hg2, ht2, hv2, hd2, ⟨g3, t3, cs3, f3, p3, q3, hg3, ht3, hv3, hd3, ⟨g4, t4, cs4, f4, p4, q4, hg4, ht4, hv4, hd4, ⟨g5, t5, cs5, f5, p5, q5, hg5, ht5, hv5, hd5, ⟨g6, t6, cs6, f6, p6, q6, hg6, ht6, hv6, hd6, ⟨g7, t7, cs7, f7, p7, q7, hg7, ht7, hv7, hd7, ⟨g8, t8, cs8, f8, p8, q8, hg8, ht8, hv8, hd8, ⟨g9, t9, cs9, f9, p9, q9, hg9, ht9, hv9, hd9, ⟨g10, t10, cs10, f10, p10, q10, hg10, ht10, hv10, hd10, _⟩, _⟩, _⟩, _⟩, _⟩, _⟩, _⟩, _⟩, _⟩, _⟩, _⟩, _⟩ := h
  constructor
  · constructor
    · have hg : Tryz.prog.globalNamed "internal/strconv.float64info" = some 6 := by kernel_rfl
      obtain rfl := Option.some.inj (hg.symm.trans hg3)
      have hty : (Tryz.prog.globals[6]?).map (·.type) = some 125 := by kernel_rfl
      obtain rfl := Option.some.inj (hty.symm.trans ht3)
      have hd : Rows.laid_internal_strconv_float64info (H := Unit) = .agg [.lit (.int .u64 52), .lit (.int .u64 11), .lit (.int .i64 (-1023))] := by rfl
      rw [hd] at hd3
      obtain ⟨y0, y1, y2, n, hx, hlen, h0, _, _⟩ := Go.Deep.trod_struct3 Tryz.underlying125 hd3
      obtain ⟨e0, p0'⟩ := y0
      simp only [Prod.mk.injEq, DataW.agg.injEq, List.cons.injEq] at hx
      obtain ⟨⟨rfl, _⟩, _⟩ := hx
      have hcs := trod_int_val (by kernel_rfl) h0
      have hc1 : Tryz.prog.cellsOf 68 = 1 := by kernel_rfl
      rw [World.var?_cell hg hv3 0, ← Array.getElem?_toList]
      have h1 : (cs3.toList.drop 0).take 1 = [.int .u64 52] := hcs
      rw [List.drop_zero] at h1
      have h2 : (cs3.toList.take 1)[0]? = some (.int .u64 52) := by rw [h1]; rfl
      rwa [List.getElem?_take_of_lt (by omega)] at h2
    · have hg : Tryz.prog.globalNamed "internal/strconv.optimize" = some 5 := by kernel_rfl
      obtain rfl := Option.some.inj (hg.symm.trans hg4)
      have hty : (Tryz.prog.globals[5]?).map (·.type) = some 4 := by kernel_rfl
      obtain rfl := Option.some.inj (hty.symm.trans ht4)
      have hcs := trod_bool_val Tryz.underlying4 hd4
      rw [World.var?_cell hg hv4 0, ← Array.getElem?_toList, hcs]
      rfl
    · have hg : Tryz.prog.globalNamed "internal/strconv.float64pow10" = some 11 := by kernel_rfl
      obtain rfl := Option.some.inj (hg.symm.trans hg6)
      have hty : (Tryz.prog.globals[11]?).map (·.type) = some 164 := by kernel_rfl
      obtain rfl := Option.some.inj (hty.symm.trans ht6)
      have hd : Rows.laid_internal_strconv_float64pow10 (H := Unit) = .slice (pow10Bits.map fun b => .lit (.float .f64 b)) [] := by rfl
      rw [hd] at hd6
      obtain ⟨a, cap, hcs, hl, hall⟩ := open_row Tryz.underlying164 (by kernel_rfl) hd6
      have key : ∀ k, k ≤ 15 → W.cell? (a.add k) = some (.float .f64 (fw (10 ^ k))) := fun k hk => by
        obtain ⟨v, n, q, hv, ht⟩ := hall k (.lit (.float .f64 (fw (10 ^ k)))) (by rw [List.getElem?_map, pow10Bits_get k hk]; rfl)
        rw [hv, trod_float_val Tryz.underlying61 ht]
      have hsp := World.cell?_spot (key 0 (by omega))
      obtain ⟨b, o, sp⟩ := a
      simp only [Addr.add] at hsp
      subst hsp
      refine ⟨b, o, cap, ?_, fun k hk => ?_⟩
      · rw [World.var?_cell hg hv6 0, ← Array.getElem?_toList, hcs]
        rfl
      · have := key k hk
        rwa [Go.WideShapes.add_plain] at this
  · have hg : Tryz.prog.globalNamed "strconv.ErrRange" = some 3 := by kernel_rfl
    obtain rfl := Option.some.inj (hg.symm.trans hg10)
    have hty : (Tryz.prog.globals[3]?).map (·.type) = some 71 := by kernel_rfl
    obtain rfl := Option.some.inj (hty.symm.trans ht10)
    obtain ⟨u, v, hcs⟩ := iface_cells Tryz.underlying71 hd10
    refine ⟨.iface u v, ?_, .inr ⟨u, v, rfl⟩⟩
    have hc := World.var?_cell hg hv10 0
    rw [hc]
    rw [← Array.getElem?_toList, hcs]
    rfl
end Go.Proofs.YtlailomhgipppaaGreatDoor
