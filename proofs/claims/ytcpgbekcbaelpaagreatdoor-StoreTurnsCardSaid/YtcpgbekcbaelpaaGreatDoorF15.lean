/- Texts of the proof, in build order: StAl, StAy, StFm, StRp, StCs. -/
import Derived.Test.YtcpgbekcbaelpaaGreatDoorF14
set_option linter.unusedVariables false
set_option linter.unusedSimpArgs false
set_option linter.unusedSectionVars false
/- Layer 7 in plain words: a batch: its objects may be, and the disk tells them. No program in sight. -/
namespace Go.Proofs.YtcpgbekcbaelpaaGreatDoor
open Wr
set_option linter.unusedVariables false
set_option linter.unusedSimpArgs false
namespace St
def OneOk (dec : List UInt8 → Bool) (next : Int) (x : Int × List UInt8) : Prop := 0 < x.1 ∧ x.1 < next ∧ dec x.2 = true ∧ x.2.length ≤ 16384
theorem oDel_mem {id : Int} {o : Objs} {x : Int × List UInt8} (h : x ∈ oDel id o) : x ∈ o ∧ x.1 ≠ id := by
  have := List.mem_filter.1 h
  exact ⟨this.1, by simpa using this.2⟩
theorem oDel_sorted {id : Int} {o : Objs} (h : o.Pairwise (fun x y => x.1 < y.1)) : (oDel id o).Pairwise (fun x y => x.1 < y.1) := List.Pairwise.filter _ h
theorem oIns_mem {id : Int} {b : List UInt8} {x : Int × List UInt8} : ∀ {o : Objs}, x ∈ oIns id b o → x = (id, b) ∨ x ∈ o
  | [], h => by rw [oIns] at h; exact .inl (List.mem_singleton.1 h)
  | y :: l, h => by
    rw [oIns] at h
    split at h
    · rcases List.mem_cons.1 h with e | e
      · exact .inl e
      · exact .inr e
    · rcases List.mem_cons.1 h with e | e
      · exact .inr (by rw [e]; exact List.mem_cons_self ..)
      · rcases oIns_mem e with e2 | e2
        · exact .inl e2
        · exact .inr (List.mem_cons_of_mem _ e2)
theorem oIns_sorted {id : Int} {b : List UInt8} : ∀ {o : Objs}, o.Pairwise (fun x y => x.1 < y.1) → (∀ x ∈ o, x.1 ≠ id) → (oIns id b o).Pairwise (fun x y => x.1 < y.1)
  | [], _, _ => by rw [oIns]; exact List.pairwise_singleton _ _
  | y :: l, h, hn => by
    have hc := List.pairwise_cons.1 h
    rw [oIns]
    split
    · rename_i hlt
      refine List.pairwise_cons.2 ⟨fun x hx => ?_, h⟩
      show id < x.1
      rcases List.mem_cons.1 hx with e | e
      · rw [e]; exact hlt
      · have := hc.1 x e; omega
    · rename_i hlt
      have hne := hn y (List.mem_cons_self ..)
      refine List.pairwise_cons.2 ⟨fun x hx => ?_, oIns_sorted hc.2 (fun x hx => hn x (List.mem_cons_of_mem _ hx))⟩
      rcases oIns_mem hx with e | e
      · rw [e]; show y.1 < id; omega
      · exact hc.1 x e
theorem oPut_sorted {id : Int} {b : List UInt8} {o : Objs} (h : o.Pairwise (fun x y => x.1 < y.1)) : (oPut id b o).Pairwise (fun x y => x.1 < y.1) := oIns_sorted (oDel_sorted h) (fun x hx => (oDel_mem hx).2)
theorem oPut_mem {id : Int} {b : List UInt8} {o : Objs} {x : Int × List UInt8} (h : x ∈ oPut id b o) : x = (id, b) ∨ x ∈ o := by
  rcases oIns_mem h with e | e
  · exact .inl e
  · exact .inr (oDel_mem e).1
def ChOk (dec : List UInt8 → Bool) (c : Ch) : Prop := 1 ≤ c.1 ∧ c.1 ≤ 1099511627776 ∧ ∀ b, c.2 = some (.ok b) → dec b = true ∧ b.length ≤ 16384
theorem withT_ok {dec : List UInt8 → Bool} : ∀ (l : List Ch) (o : Objs) (n : Int) (r : List UInt8) (p : Objs × Int × List UInt8), withT l o n r = .ok p → (∀ c ∈ l, ChOk dec c) → o.Pairwise (fun x y => x.1 < y.1) → (∀ x ∈ o, OneOk dec n x) → n ≤ 2199023255552 →
    p.1.Pairwise (fun x y => x.1 < y.1) ∧ (∀ x ∈ p.1, OneOk dec p.2.1 x) ∧ p.2.1 ≤ 2199023255552
  | [], o, n, r, p, h, _, ho, hx, hn => by
    rw [withT] at h
    cases h
    exact ⟨ho, hx, hn⟩
  | c :: l, o, n, r, p, h, hc, ho, hx, hn => by
    obtain ⟨c1, c2, c3⟩ := hc c (List.mem_cons_self ..)
    have hc' := fun d hd => hc d (List.mem_cons_of_mem _ hd)
    have up : ∀ x, OneOk dec n x → OneOk dec (max n (c.1 + 1)) x := fun x ⟨h1, h2, h3⟩ => ⟨h1, by omega, h3⟩
    rw [withT] at h
    split at h
    · exact withT_ok l _ _ _ p h hc' (oDel_sorted ho) (fun x hx' => up x (hx x (oDel_mem hx').1)) (by omega)
    · cases h
    · rename_i b hb
      refine withT_ok l _ _ _ p h hc' (oPut_sorted ho) (fun x hx' => ?_) (by omega)
      rcases oPut_mem hx' with e | e
      · rw [e]
        exact ⟨by show 0 < c.1; omega, by show c.1 < max n (c.1 + 1); omega, c3 b hb⟩
      · exact up x (hx x e)
theorem num_pos (n : Int) : 1 ≤ (num n).length := by
  show 1 ≤ (var (zig n)).length
  rw [var]
  split <;> simp
theorem objsBytes_len : ∀ o : Objs, 2 * o.length ≤ (objsBytes o).length
  | [] => by simp [objsBytes]
  | x :: o => by
    have h := objsBytes_len o
    have h1 := num_pos x.1
    have h2 : 1 ≤ (str x.2).length := by
      have := num_pos (x.2.length : Int)
      unfold str
      rw [List.length_append]
      omega
    rw [objsBytes, List.length_append, List.length_append, List.length_cons]
    omega
theorem image_cnt (o : Objs) (n : Int) : 2 * o.length ≤ (image o n).length := by
  have := objsBytes_len o
  unfold image
  rw [List.length_append, List.length_append]
  omega
theorem push_live {dec : List UInt8 → Bool} {s : Sto} {n : Nat} {f : Nat → List UInt8} {o0 : Objs} {n0 : Int} {rs : List (List UInt8)} (h : Inv dec s n f o0 n0 rs) {r : List UInt8} {p : Objs × Int} (hr : r.length ≤ 16777216) (hroom : 2 + sectorsOf rs + need r.length ≤ s.count) (hp : replay dec r s.objs s.next = some p) (hob : ObjsOk dec p.1 p.2) :
    ∃ l' f', RunsTo (s.log.append r) n f l' f' ∧ Inv dec { s with objs := p.1, next := p.2, log := l' } n f' o0 n0 (rs ++ [r]) := by
  have hm : mostAge = 4611686018427387904 := rfl
  have hg := h.geo
  have hb := h.nb
  have a1 := h.hok.a1
  have a2 := h.hok.a2
  have hrc := recs_count rs
  have hsn := sectorsOf_snoc r rs
  have hnd := need_chunks r
  have hlog := h.log
  have hap := append_live (n := n) (f := f) (l := ⟨2, s.count, s.hd.age, rs.length, 2 + sectorsOf rs⟩) (b := r) a1 (by show s.hd.age ≤ _; omega) (by show (0 : Int) ≤ (rs.length : Int); omega) (by show (rs.length : Int) ≤ _; omega) hr hroom (by show 2 + s.count ≤ n; omega)
  simp only at hap
  rw [hlog]
  have hfl := logFirst_len (age := s.hd.age) (n := (rs.length : Int)) (b := r) a1 (by omega) (by omega) (by omega) hr
  have hcl : ((chunks 511 r).map fun q => pad (68 :: q)).length = (chunks 511 r).length := List.length_map _
  generalize hF : upd (updL f (2 + (2 + sectorsOf rs) + 1) ((chunks 511 r).map fun q => pad (68 :: q))) (2 + (2 + sectorsOf rs)) (pad (logFirst s.hd.age rs.length r)) = F at hap
  have gOut : ∀ j, (j < 2 + (2 + sectorsOf rs) ∨ 2 + (2 + sectorsOf rs) + need r.length ≤ j) → F j = f j := fun j hj => by
    rw [← hF, upd_other (by omega), updL_out _ _ _ _ (by omega)]
  have gHd : F (2 + (2 + sectorsOf rs)) = pad (logFirst s.hd.age rs.length r) := by rw [← hF, upd_same]
  have gIn : ∀ i q, (chunks 511 r)[i]? = some q → F (2 + (2 + sectorsOf rs) + 1 + i) = pad (68 :: q) := fun i q hq => by
    rw [← hF, upd_other (by omega)]
    exact updL_in _ _ _ _ _ (by rw [List.getElem?_map, hq]; rfl)
  refine ⟨_, F, hap, { c3 := h.c3, e1 := h.e1, geo := hg, nb := hb, ob0 := h.ob0, fit := h.fit, hsz := h.hsz, hsm := h.hsm, img := ?_, recs := ?_, log := ?_, room := ?_, play := ?_, hok := h.hok, hd1 := ?_, hd2 := ?_, lg1 := ?_, lg2 := ?_, free := ?_, fut := ?_, obs := hob }⟩
  · intro i q hq
    show F (2 + s.count + s.hd.half.toNat * s.each + i) = q
    rw [gOut _ (by omega)]
    exact h.img i q hq
  · refine recsAt_snoc rs 0 2 (recsAt_congr rs 0 2 (fun j h1 h2 => gOut _ (by omega)) h.recs) ⟨?_, ?_, hr, fun i q hq => ?_, trivial⟩
    · rw [Int.zero_add]; exact gHd
    · rw [Int.zero_add]; exact hfl
    · have := gIn i q hq
      show F (2 + (2 + sectorsOf rs + 1 + i)) = _
      rw [show 2 + (2 + sectorsOf rs + 1 + i) = 2 + (2 + sectorsOf rs) + 1 + i by omega]
      exact this
  · have e1 : (rs.length : Int) + 1 = ((rs ++ [r]).length : Int) := by rw [List.length_append]; simp
    have e2 : 2 + sectorsOf rs + need r.length = 2 + sectorsOf (rs ++ [r]) := by omega
    show Lg.mk 2 s.count s.hd.age ((rs.length : Int) + 1) (2 + sectorsOf rs + need r.length) = Lg.mk 2 s.count s.hd.age ((rs ++ [r]).length : Int) (2 + sectorsOf (rs ++ [r]))
    rw [e1, e2]
  · show 2 + sectorsOf (rs ++ [r]) ≤ s.count
    omega
  · rw [replays_snoc rs o0 n0 (s.objs, s.next) h.play]
    exact hp
  · show F (1 - s.hd.turn % 2).toNat = _
    rw [gOut _ (by omega)]
    exact h.hd1
  · show (readHd (F (s.hd.turn % 2).toNat)).turn < _
    rw [gOut _ (by omega)]
    exact h.hd2
  · show F (2 + (1 - s.hd.age % 2).toNat) = _
    rw [gOut _ (by omega)]
    exact h.lg1
  · show ageOf (F (2 + (s.hd.age % 2).toNat)) < _
    rw [gOut _ (by omega)]
    exact h.lg2
  · intro j h1 h2
    have h2' : j < s.count := h2
    show NoRec (F (2 + j)) s.hd.age
    rw [gOut _ (by omega)]
    exact h.free j (by omega) h2'
  · intro j a h1 h2 h3
    have h2' : j < s.count := h2
    have h3' : s.hd.age < a := h3
    show NoRec (F (2 + j)) a
    by_cases c1 : 2 + j < 2 + (2 + sectorsOf rs) ∨ 2 + (2 + sectorsOf rs) + need r.length ≤ 2 + j
    · rw [gOut _ c1]
      exact h.fut j a h1 h2' h3'
    · by_cases c2 : 2 + j = 2 + (2 + sectorsOf rs)
      · rw [c2, gHd]
        exact noRec_old a1 (by omega) (by omega)
      · obtain ⟨i, hi⟩ : ∃ i, 2 + j = 2 + (2 + sectorsOf rs) + 1 + i := ⟨j - (2 + sectorsOf rs) - 1, by omega⟩
        have hlt : i < (chunks 511 r).length := by omega
        rw [hi, gIn i _ (List.getElem?_eq_getElem hlt)]
        exact noRec_part _ _
end St
end Go.Proofs.YtcpgbekcbaelpaaGreatDoor
/- Layer 7 in plain words: Apply, and a new store. No program in sight. -/
namespace Go.Proofs.YtcpgbekcbaelpaaGreatDoor
open Wr
set_option linter.unusedVariables false
set_option linter.unusedSimpArgs false
namespace St
def recOf (l : List Ch) (p : Objs × Int × List UInt8) : List UInt8 := num p.2.1 ++ num l.length ++ p.2.2
theorem apply_live {dec : List UInt8 → Bool} {s : Sto} {n : Nat} {f : Nat → List UInt8} {o0 : Objs} {n0 : Int} {rs : List (List UInt8)} (h : Inv dec s n f o0 n0 rs) (hf : Fits s) {l : List Ch} (hl : l ≠ []) (hc : ∀ c ∈ l, ChOk dec c) (hlen : l.length ≤ 67108864) {p : Objs × Int × List UInt8} (hw : withT l s.objs s.next [] = .ok p)
    (hi : (image p.1 p.2.1).length ≤ s.room) (hcap : s.room ≤ 67108864) (hn : 2 + need (recOf l p).length ≤ s.count) (hr : (recOf l p).length ≤ 16777216) :
    ∃ s' f' o1 n1 rs1, RunsTo (s.apply l) n f s' f' ∧ Inv dec s' n f' o1 n1 rs1 ∧ s'.objs = p.1 ∧ s'.next = p.2.1 ∧ s'.count = s.count ∧ s'.each = s.each ∧ s'.hd.turn ≤ s.hd.turn + 1 ∧ s'.hd.age ≤ s.hd.age + 1 := by
  have hany : ¬ (l.any (fun c => decide (c.1 < 1 ∨ 1099511627776 < c.1)) = true) := fun ha => by
    obtain ⟨c, hcm, hcd⟩ := List.any_eq_true.1 ha
    have := hc c hcm
    have h1 := of_decide_eq_true hcd
    obtain ⟨c1, c2, _⟩ := this
    omega
  have hob0 := h.obs
  obtain ⟨ho1, ho2, ho3⟩ := withT_ok (dec := dec) l s.objs s.next [] p hw hc hob0.sorted hob0.each hob0.n2
  have hb := withT_bytes l s.objs s.next [] p hw
  have hcnt := image_cnt p.1 p.2.1
  have hob : ObjsOk dec p.1 p.2.1 := ⟨ho1, ho2, by have := hob0.n1; omega, ho3, by omega⟩
  have hpos : 1 ≤ l.length := List.length_pos_iff.2 hl
  have hrep : ∀ o n', o = s.objs → n' = s.next → replay dec (recOf l p) o n' = some (p.1, p.2.1) := fun o n' e1 e2 => by
    subst e1 e2
    exact replay_full hw ⟨hpos, hlen⟩ hob0.n1 ho3 hc
  unfold Sto.apply
  rw [if_neg hl, if_neg hany, hw]
  simp only
  rw [show num p.2.1 ++ num (l.length : Int) ++ p.2.2 = recOf l p from rfl]
  rw [if_neg (by show ¬ (s.room < (image p.1 p.2.1).length ∨ s.count < 2 + need (recOf l p).length); omega)]
  have hroomL : s.log.room = if s.count ≤ 2 + sectorsOf rs then -1 else min (((s.count : Int) - ((2 + sectorsOf rs : Nat) : Int) - 1) * 511) 16777216 := by rw [h.log]; rfl
  by_cases hlr : s.log.room < (recOf l p).length
  · obtain ⟨s1, f1, r1, i1, e1, e2, e3, e4, e5, e6⟩ := turnOver_live h hf
    obtain ⟨l', f2, r2, i2⟩ := push_live i1 (r := recOf l p) (p := (p.1, p.2.1)) hr (by show 2 + 0 + _ ≤ _; rw [e3]; omega) (hrep _ _ e1 e2) hob
    refine ⟨{ s1 with objs := p.1, next := p.2.1, log := l' }, f2, s.objs, s.next, [recOf l p], ?_, i2, rfl, rfl, e3, e4, ?_, ?_⟩
    · rw [if_pos hlr]
      exact r1.andThen (r2.andThen (RunsTo.ret n f2 _))
    · show s1.hd.turn ≤ _; omega
    · show s1.hd.age ≤ _; omega
  · have hfit : 2 + sectorsOf rs + need (recOf l p).length ≤ s.count := by
      rw [hroomL] at hlr
      unfold need
      split at hlr
      · omega
      · omega
    obtain ⟨l', f2, r2, i2⟩ := push_live h (r := recOf l p) (p := (p.1, p.2.1)) hr hfit (hrep _ _ rfl rfl) hob
    refine ⟨{ s with objs := p.1, next := p.2.1, log := l' }, f2, o0, n0, rs ++ [recOf l p], ?_, i2, rfl, rfl, rfl, rfl, ?_, ?_⟩
    · rw [if_neg hlr]
      exact (RunsTo.ret n f s).andThen (r2.andThen (RunsTo.ret n f2 _))
    · show s.hd.turn ≤ _; omega
    · show s.hd.age ≤ _; omega
theorem updL_rep (f : Nat → List UInt8) (b : List UInt8) : ∀ (k i j : Nat), updL f i (List.replicate k b) j = if i ≤ j ∧ j < i + k then b else f j
  | 0, i, j => by
    rw [if_neg (by omega)]
    rfl
  | k + 1, i, j => by
    rw [List.replicate_succ, updL]
    have h : ∀ g : Nat → List UInt8, updL g (i + 1) (List.replicate k b) j = if i + 1 ≤ j ∧ j < i + 1 + k then b else g j := fun g => updL_rep g b k (i + 1) j
    rw [h]
    unfold upd
    by_cases c1 : i + 1 ≤ j ∧ j < i + 1 + k
    · rw [if_pos c1, if_pos (by omega)]
    · rw [if_neg c1]
      by_cases c2 : j = i
      · rw [if_pos c2, if_pos (by omega)]
      · rw [if_neg c2, if_neg (by omega)]
end St
end Go.Proofs.YtcpgbekcbaelpaaGreatDoor
/- Layer 7 in plain words: a new store. No program in sight. -/
namespace Go.Proofs.YtcpgbekcbaelpaaGreatDoor
open Wr
set_option linter.unusedVariables false
set_option linter.unusedSimpArgs false
namespace St
theorem ageOf_zeros : ageOf (zeros 512) = 0 := rfl
theorem readHd_zeros : readHd (zeros 512) = noHd := rfl
def hd0 : Hd2 := ⟨1, 0, (image [] 1).length, (crc (image [] 1) : Nat), 1⟩
def sto0 (count each : Nat) : Sto := ⟨[], 1, hd0, ⟨2, count, 1, 0, 2⟩, count, each⟩
theorem num_small {m : Int} (h1 : 0 ≤ m) (h2 : m ≤ 63) : (num m).length = 1 := by
  have hz : zig m < 128 := by
    unfold zig
    split <;> omega
  show (var (zig m)).length = 1
  rw [var, dif_pos hz]
  rfl
theorem image0_len : (image [] 1).length = 2 := by
  have h1 := num_small (m := 1) (by decide) (by decide)
  have h0 := num_small (m := 0) (by decide) (by decide)
  unfold image
  rw [List.length_append, List.length_append, h1]
  show 1 + (num 0).length + 0 = 2
  omega
theorem format_live {dec : List UInt8 → Bool} {n count each : Nat} {f : Nat → List UInt8} (hc : 3 ≤ count) (he : 1 ≤ each) (hg : 2 + count + 2 * each ≤ n) (hn : n ≤ 4611686018427387904) :
    ∃ f', RunsTo (format count each) n f () f' ∧ Inv dec (sto0 count each) n f' [] 1 [] := by
  have hcr := crc_le (image [] 1)
  have hsz : hd0.size = 2 := by show ((image [] 1).length : Int) = 2; rw [image0_len]; rfl
  have hok : hd0.Ok := ⟨by decide, by decide, by decide, by decide, by rw [hsz]; decide, by rw [hsz]; decide, by show (0 : Int) ≤ ((crc (image [] 1) : Nat) : Int); omega, by show ((crc (image [] 1) : Nat) : Int) ≤ _; omega, by decide, by decide⟩
  have hlf : RunsTo (logFormat 2 count) n f () (upd (updL f 3 (List.replicate (count - 1) (zeros 512))) 2 (pad (logHead 1))) := by
    unfold logFormat
    refine (writesD_live _ f 3 (by rw [List.length_replicate]; omega) (fun b hb => ?_)).andThen (RunsTo.andThen barrierD_live (RunsTo.andThen (writeD_live (i := 2) (by omega) (pad_len (logHead_len (by decide) (by decide)))) barrierD_live))
    rw [List.eq_of_mem_replicate hb]
    exact zeros_len 512
  have hld := laid_live (n := n) (count := count) (each := each) (f := upd (upd (updL f 3 (List.replicate (count - 1) (zeros 512))) 2 (pad (logHead 1))) 1 (zeros 512)) (o := []) (next := 1) (h := ⟨1, 0, 0, 0, 1⟩) hok (by rw [image0_len]; omega) hg
  obtain ⟨F, hF⟩ : ∃ F, F = upd (updL (upd (upd (updL f 3 (List.replicate (count - 1) (zeros 512))) 2 (pad (logHead 1))) 1 (zeros 512)) (2 + count) (chunks 512 (full (image [] 1)))) 0 (full hd0.bytes) := ⟨_, rfl⟩
  have hz : (0 : Int).toNat * each = 0 := by simp
  have hrun := hlf.andThen (g := fun _ => (writeD 1 (zeros 512)).andThen fun _ => (laid count each [] 1 ⟨1, 0, 0, 0, 1⟩).andThen fun _ => DM.ret ()) (RunsTo.andThen (writeD_live (i := 1) (by omega) (zeros_len 512)) (hld.andThen (RunsTo.ret n _ _)))
  simp only [hz, Nat.add_zero] at hrun
  refine ⟨F, by rw [hF]; exact hrun, ?_⟩
  have hlen : (chunks 512 (full (image [] 1))).length = 1 := by rw [full_chunks, image0_len]
  have gLow : ∀ j, 3 ≤ j → j < 2 + count → F j = zeros 512 := fun j h1 h2 => by
    rw [hF, upd_other (by omega), updL_out _ _ _ _ (Or.inl (by omega)), upd_other (by omega), upd_other (by omega), updL_rep, if_pos (by omega)]
  have hob : ObjsOk dec [] 1 := ⟨List.Pairwise.nil, (fun x hx => by cases hx), by decide, by decide, by decide⟩
  refine { c3 := hc, e1 := he, geo := hg, nb := hn, ob0 := hob, fit := by rw [image0_len]; show 2 ≤ each * 512; omega, hsz := rfl, hsm := rfl, img := ?_, recs := trivial, log := rfl, room := by show 2 + 0 ≤ count; omega, play := rfl, hok := hok, hd1 := ?_, hd2 := ?_, lg1 := ?_, lg2 := ?_, free := ?_, fut := ?_, obs := hob }
  · intro i p hp
    show F (2 + count + (0 : Int).toNat * each + i) = p
    rw [hz, Nat.add_zero, hF, upd_other (by omega)]
    exact updL_in _ _ _ _ _ hp
  · show F 0 = full hd0.bytes
    rw [hF, upd_same]
  · show (readHd (F 1)).turn < 1
    rw [hF, upd_other (by omega), updL_out _ _ _ _ (Or.inl (by omega)), upd_same, readHd_zeros]
    decide
  · show F 2 = pad (logHead 1)
    rw [hF, upd_other (by omega), updL_out _ _ _ _ (Or.inl (by omega)), upd_other (by omega), upd_same]
  · show ageOf (F 3) < 1
    rw [gLow 3 (by omega) (by omega), ageOf_zeros]
    decide
  · intro j h1 h2
    have h1' : 2 + 0 ≤ j := h1
    have h2' : j < count := h2
    show NoRec (F (2 + j)) _
    rw [gLow (2 + j) (by omega) (by omega)]
    exact noRec_zeros _
  · intro j a h1 h2 h3
    have h2' : j < count := h2
    show NoRec (F (2 + j)) _
    rw [gLow (2 + j) (by omega) (by omega)]
    exact noRec_zeros _
end St
end Go.Proofs.YtcpgbekcbaelpaaGreatDoor
/- Layer 7 in plain words: what holds of a store behind every call. No program in sight. -/
namespace Go.Proofs.YtcpgbekcbaelpaaGreatDoor
open Wr
set_option linter.unusedVariables false
set_option linter.unusedSimpArgs false
namespace St
def Sto.checkpoint (s : Sto) : DM Sto := s.turnOver s.objs s.next
def Sto.replace (s : Sto) (next : Int) (l : List Ch) : DM Sto :=
  if next < 1 ∨ 2199023255552 < next then DM.no 1
  else if l.any (fun c => decide (c.1 < 1 ∨ min 1099511627776 (next - 1) < c.1)) then DM.no 1
  else match withT l [] next [] with
    | .error e => DM.no e
    | .ok p => if s.room < (image p.1 p.2.1).length then DM.no 7 else s.turnOver p.1 p.2.1
structure Good (dec : List UInt8 → Bool) (s : Sto) (n : Nat) (f : Nat → List UInt8) (t : Int) : Prop where
  inv : ∃ o0 n0 rs, Inv dec s n f o0 n0 rs
  fit : (image s.objs s.next).length ≤ s.each * 512
  cap : s.each * 512 ≤ 67108864
  turn : s.hd.turn ≤ t
  age : s.hd.age ≤ t
theorem Good.fits {dec : List UInt8 → Bool} {s : Sto} {n : Nat} {f : Nat → List UInt8} {t : Int} (g : Good dec s n f t) (ht : t + 1 ≤ mostAge) : Fits s := ⟨g.fit, by have := g.fit; have := g.cap; omega, by have := g.turn; omega, by have := g.age; omega⟩
theorem good_format {dec : List UInt8 → Bool} {n count each : Nat} {f : Nat → List UInt8} (hc : 3 ≤ count) (he : 1 ≤ each) (hg : 2 + count + 2 * each ≤ n) (hn : n ≤ 4611686018427387904) (hcap : each * 512 ≤ 67108864) :
    ∃ f', RunsTo (format count each) n f () f' ∧ Good dec (sto0 count each) n f' 1 := by
  obtain ⟨f', h1, h2⟩ := format_live (dec := dec) (f := f) hc he hg hn
  exact ⟨f', h1, ⟨⟨_, _, _, h2⟩, by show (image [] 1).length ≤ each * 512; rw [image0_len]; omega, hcap, Int.le_refl _, Int.le_refl _⟩⟩
theorem good_open {dec : List UInt8 → Bool} {s : Sto} {n : Nat} {f : Nat → List UInt8} {t : Int} (g : Good dec s n f t) : RunsTo (openT dec s.count s.each) n f s f := by
  obtain ⟨o0, n0, rs, h⟩ := g.inv
  exact open_live h
theorem good_checkpoint {dec : List UInt8 → Bool} {s : Sto} {n : Nat} {f : Nat → List UInt8} {t : Int} (g : Good dec s n f t) (ht : t + 1 ≤ mostAge) :
    ∃ s' f', RunsTo s.checkpoint n f s' f' ∧ Good dec s' n f' (t + 1) ∧ s'.objs = s.objs ∧ s'.next = s.next ∧ s'.count = s.count ∧ s'.each = s.each := by
  obtain ⟨o0, n0, rs, h⟩ := g.inv
  obtain ⟨s', f', h1, h2, e1, e2, e3, e4, e5, e6⟩ := turnOver_live h (g.fits ht)
  have g1 := g.turn
  have g2 := g.age
  exact ⟨s', f', h1, ⟨⟨_, _, _, h2⟩, by rw [e1, e2, e4]; exact g.fit, by rw [e4]; exact g.cap, by omega, by omega⟩, e1, e2, e3, e4⟩
theorem good_apply {dec : List UInt8 → Bool} {s : Sto} {n : Nat} {f : Nat → List UInt8} {t : Int} (g : Good dec s n f t) (ht : t + 1 ≤ mostAge) {l : List Ch} (hl : l ≠ []) (hc : ∀ c ∈ l, ChOk dec c) (hlen : l.length ≤ 67108864) {p : Objs × Int × List UInt8} (hw : withT l s.objs s.next [] = .ok p)
    (hi : (image p.1 p.2.1).length ≤ s.room) (hn : 2 + need (recOf l p).length ≤ s.count) (hr : (recOf l p).length ≤ 16777216) :
    ∃ s' f', RunsTo (s.apply l) n f s' f' ∧ Good dec s' n f' (t + 1) ∧ s'.objs = p.1 ∧ s'.next = p.2.1 ∧ s'.count = s.count ∧ s'.each = s.each := by
  obtain ⟨o0, n0, rs, h⟩ := g.inv
  obtain ⟨s', f', o1, n1, rs1, h1, h2, e1, e2, e3, e4, e5, e6⟩ := apply_live h (g.fits ht) hl hc hlen hw hi g.cap hn hr
  have g1 := g.turn
  have g2 := g.age
  exact ⟨s', f', h1, ⟨⟨_, _, _, h2⟩, by rw [e1, e2, e4]; exact hi, by rw [e4]; exact g.cap, by omega, by omega⟩, e1, e2, e3, e4⟩
end St
end Go.Proofs.YtcpgbekcbaelpaaGreatDoor
/- Layer 7 in plain words: the power goes while a store is turned over. No program in sight. -/
namespace Go.Proofs.YtcpgbekcbaelpaaGreatDoor
open Wr
set_option linter.unusedVariables false
set_option linter.unusedSimpArgs false
namespace St
structure Powr (d : Dk) (n : Nat) (f : Nat → List UInt8) (ws : List (Nat × List UInt8)) (o : Bool) : Prop where
  off : d.off = o
  len : d.last.length = n
  wq : d.waits = ws
  win : ∀ x ∈ ws, x.1 < n
  at' : ∀ i, i < n → d.last.getD i [] = f i
theorem settle_len' : ∀ (l : List (Nat × List UInt8)) (vs : List (List UInt8)) (p : Nat → Bool) (i : Nat), (settle vs l p i).length = vs.length
  | [], vs, p, i => rfl
  | x :: l, vs, p, i => by
    rw [settle, settle_len' l]
    split
    · rw [List.length_set]
    · rfl
theorem settle_pick : ∀ (l : List (Nat × List UInt8)) (vs : List (List UInt8)) (p : Nat → Bool) (k i : Nat), i < vs.length → (settle vs l p k).getD i [] = vs.getD i [] ∨ ∃ b, (i, b) ∈ l ∧ (settle vs l p k).getD i [] = b
  | [], vs, p, k, i, _ => .inl rfl
  | x :: l, vs, p, k, i, hi => by
    rw [settle]
    have hl : (if p k = true then vs.set x.1 x.2 else vs).length = vs.length := by split; rw [List.length_set]; rfl
    rcases settle_pick l (if p k = true then vs.set x.1 x.2 else vs) p (k + 1) i (by rw [hl]; exact hi) with h | ⟨b, h1, h2⟩
    · rw [h]
      split
      · by_cases e : x.1 = i
        · right
          refine ⟨x.2, by rw [← e]; exact List.mem_cons_self .., ?_⟩
          subst e
          simp [List.getD_eq_getElem?_getD, hi]
        · left
          simp [List.getD_eq_getElem?_getD, List.getElem?_set_ne e]
      · exact .inl rfl
    · exact .inr ⟨b, List.mem_cons_of_mem _ h1, h2⟩
theorem crash_any {d : Dk} {n : Nat} {f : Nat → List UInt8} {ws : List (Nat × List UInt8)} {o : Bool} (h : Powr d n f ws o) (picks : List Int) :
    ∃ f', Live (d.crash picks) n f' ∧ (d.crash picks).waits = [] ∧ ∀ i, i < n → f' i = f i ∨ ∃ b, (i, b) ∈ ws ∧ f' i = b := by
  refine ⟨fun i => (settle d.last d.waits (fun i => decide (i < picks.length ∧ picks.getD i 0 % 2 = 1)) 0).getD i [], ⟨rfl, rfl, ?_, (fun x hx => by cases hx), fun i hi => rfl⟩, rfl, fun i hi => ?_⟩
  · show (settle _ _ _ _).length = n
    rw [settle_len', h.len]
  · rcases settle_pick d.waits d.last (fun i => decide (i < picks.length ∧ picks.getD i 0 % 2 = 1)) 0 i (by rw [h.len]; exact hi) with h1 | ⟨b, h1, h2⟩
    · exact .inl (h1.trans (h.at' i hi))
    · exact .inr ⟨b, by rw [← h.wq]; exact h1, h2⟩
theorem andThen_ok' {α β : Type} {m : DM α} {f : α → DM β} {D D' : Dk} {a : α} (h : m D = (.ok a, D')) : (m.andThen f) D = f a D' := by unfold DM.andThen; rw [h]
theorem andThen_no' {α β : Type} {m : DM α} {f : α → DM β} {D D' : Dk} {e : Int} (h : m D = (.error e, D')) : (m.andThen f) D = (.error e, D') := by unfold DM.andThen; rw [h]
theorem write_step {d : Dk} {n : Nat} {f : Nat → List UInt8} {ws : List (Nat × List UInt8)} (h : Powr d n f ws false) {i : Nat} {b : List UInt8} (hi : i < n) (hb : b.length = 512) :
    (∃ d', writeD (i : Int) b d = (.ok (), d') ∧ Powr d' n f (ws ++ [(i, b)]) false) ∨ ∃ d', writeD (i : Int) b d = (.error 8, d') ∧ Powr d' n f ws true := by
  have hw : d.write (i : Int) b = if d.spend.2 ≠ 0 then d.spend else ({ d.spend.1 with waits := d.waits ++ [(i, b)] }, 0) := by
    unfold Dk.write
    rw [if_neg (by rw [h.off]; decide), if_neg (by rw [h.len, hb]; simp; omega), Int.toNat_natCast]
  unfold writeD
  rw [hw]
  unfold Dk.spend
  by_cases h0 : d.left = 0
  · right
    simp only [h0, if_true]
    rw [if_pos (by decide : (8 : Int) ≠ 0)]
    simp only
    rw [if_neg (by decide : ¬ (8 : Int) = 0)]
    exact ⟨_, rfl, rfl, h.len, h.wq, h.win, h.at'⟩
  · left
    simp only [h0, if_false, ne_eq, not_true_eq_false, if_true]
    refine ⟨_, rfl, h.off, h.len, by show d.waits ++ _ = _; rw [h.wq], fun x hx => ?_, h.at'⟩
    rcases List.mem_append.1 hx with hx | hx
    · exact h.win x hx
    · rw [List.mem_singleton] at hx; subst hx; exact hi
def applied (f : Nat → List UInt8) (ws : List (Nat × List UInt8)) : Nat → List UInt8 := ws.foldl (fun f x => upd f x.1 x.2) f
theorem settle_all : ∀ (l : List (Nat × List UInt8)) (vs : List (List UInt8)) (f : Nat → List UInt8) (k : Nat) (n : Nat), vs.length = n → (∀ x ∈ l, x.1 < n) → (∀ i, i < n → vs.getD i [] = f i) → ∀ i, i < n → (settle vs l (fun _ => true) k).getD i [] = applied f l i
  | [], vs, f, k, n, _, _, h, i, hi => h i hi
  | x :: l, vs, f, k, n, hn, hx, h, i, hi => by
    rw [settle, if_pos rfl]
    refine settle_all l (vs.set x.1 x.2) (upd f x.1 x.2) (k + 1) n (by rw [List.length_set]; exact hn) (fun y hy => hx y (List.mem_cons_of_mem _ hy)) (fun j hj => ?_) i hi
    by_cases e : j = x.1
    · subst e
      rw [upd_same]
      simp [List.getD_eq_getElem?_getD, hn, hj]
    · rw [upd_other e, ← h j hj]
      simp [List.getD_eq_getElem?_getD, List.getElem?_set_ne (fun e2 => e e2.symm)]
theorem barrier_step {d : Dk} {n : Nat} {f : Nat → List UInt8} {ws : List (Nat × List UInt8)} (h : Powr d n f ws false) :
    (∃ d', barrierD d = (.ok (), d') ∧ Powr d' n (applied f ws) [] false) ∨ ∃ d', barrierD d = (.error 8, d') ∧ Powr d' n f ws true := by
  have hw : d.barrier = if d.spend.2 ≠ 0 then d.spend else ({ d.spend.1 with last := settle d.last d.waits (fun _ => true) 0, waits := [] }, 0) := by
    unfold Dk.barrier
    rw [if_neg (by rw [h.off]; decide)]
  unfold barrierD
  rw [hw]
  unfold Dk.spend
  by_cases h0 : d.left = 0
  · right
    simp only [h0, if_true]
    rw [if_pos (by decide : (8 : Int) ≠ 0)]
    simp only
    rw [if_neg (by decide : ¬ (8 : Int) = 0)]
    exact ⟨_, rfl, rfl, h.len, h.wq, h.win, h.at'⟩
  · left
    simp only [h0, if_false, ne_eq, not_true_eq_false, if_true]
    refine ⟨_, rfl, h.off, ?_, rfl, (fun x hx => by cases hx), fun i hi => ?_⟩
    · show (settle d.last d.waits (fun _ => true) 0).length = n
      rw [settle_len', h.len]
    · show (settle d.last d.waits (fun _ => true) 0).getD i [] = _
      rw [h.wq]
      exact settle_all ws d.last f 0 n h.len h.win h.at' i hi
def pairs : Nat → List (List UInt8) → List (Nat × List UInt8)
  | _, [] => []
  | i, b :: l => (i, b) :: pairs (i + 1) l
theorem applied_pairs : ∀ (l : List (List UInt8)) (f : Nat → List UInt8) (i : Nat), applied f (pairs i l) = updL f i l
  | [], f, i => rfl
  | b :: l, f, i => applied_pairs l (upd f i b) (i + 1)
theorem pairs_at : ∀ (l : List (List UInt8)) (i : Nat) (x : Nat × List UInt8), x ∈ pairs i l → i ≤ x.1 ∧ x.1 < i + l.length
  | [], i, x, h => by cases h
  | b :: l, i, x, h => by
    rw [List.length_cons]
    rcases List.mem_cons.1 h with rfl | h
    · show i ≤ i ∧ i < _; omega
    · have := pairs_at l _ x h; omega
theorem writes_step {n : Nat} {f : Nat → List UInt8} : ∀ (l : List (List UInt8)) (i : Nat) (d : Dk) (ws : List (Nat × List UInt8)), Powr d n f ws false → i + l.length ≤ n → (∀ b ∈ l, b.length = 512) →
    (∃ d', writesD (i : Int) l d = (.ok (), d') ∧ Powr d' n f (ws ++ pairs i l) false) ∨ ∃ d' ws', writesD (i : Int) l d = (.error 8, d') ∧ Powr d' n f ws' true ∧ ∀ x ∈ ws', x ∈ ws ∨ x ∈ pairs i l
  | [], i, d, ws, h, _, _ => .inl ⟨d, rfl, by rw [pairs, List.append_nil]; exact h⟩
  | b :: l, i, d, ws, h, hl, hb => by
    rw [List.length_cons] at hl
    rw [writesD]
    rcases write_step h (show i < n by omega) (hb b (List.mem_cons_self ..)) with ⟨d', e, h'⟩ | ⟨d', e, h'⟩
    · rw [andThen_ok' e]
      have ih := writes_step l (i + 1) d' _ h' (by omega) (fun c hc => hb c (List.mem_cons_of_mem _ hc))
      rw [show ((i + 1 : Nat) : Int) = (i : Int) + 1 by omega] at ih
      rcases ih with ⟨d2, e2, h2⟩ | ⟨d2, ws', e2, h2, h3⟩
      · exact .inl ⟨d2, e2, by rw [pairs]; simpa using h2⟩
      · refine .inr ⟨d2, ws', e2, h2, fun x hx => ?_⟩
        rcases h3 x hx with hx | hx
        · rcases List.mem_append.1 hx with hx | hx
          · exact .inl hx
          · rw [List.mem_singleton] at hx
            exact .inr (by rw [pairs, hx]; exact List.mem_cons_self ..)
        · exact .inr (by rw [pairs]; exact List.mem_cons_of_mem _ hx)
    · rw [andThen_no' e]
      exact .inr ⟨d', ws, rfl, h', fun x hx => .inl hx⟩
theorem Live.congr {d : Dk} {n : Nat} {f f' : Nat → List UInt8} (h : Live d n f) (he : ∀ i, i < n → f i = f' i) : Live d n f' := ⟨h.off, h.left, h.len, h.ws, fun i hi => (h.now i hi).trans (he i hi)⟩
def turned (s : Sto) (o : Objs) (next : Int) : Hd2 := ⟨s.hd.turn + 1, 1 - s.hd.half, (image o next).length, (crc (image o next) : Nat), s.hd.age + 1⟩
def turnS (s : Sto) (o : Objs) (next : Int) : Sto := { s with objs := o, next := next, hd := turned s o next, log := ⟨2, s.count, s.hd.age + 1, 0, 2⟩ }
def fHalf (s : Sto) (o : Objs) (next : Int) (f : Nat → List UInt8) : Nat → List UInt8 := updL f (2 + s.count + (1 - s.hd.half).toNat * s.each) (chunks 512 (full (image o next)))
def fMid (s : Sto) (o : Objs) (next : Int) (f : Nat → List UInt8) : Nat → List UInt8 := upd (fHalf s o next f) (1 - (s.hd.turn + 1) % 2).toNat (full (turned s o next).bytes)
def fFin (s : Sto) (o : Objs) (next : Int) (f : Nat → List UInt8) : Nat → List UInt8 := upd (fMid s o next f) (2 + (1 - (s.hd.age + 1) % 2).toNat) (pad (logHead (s.hd.age + 1)))
structure Lays (dec : List UInt8 → Bool) (s : Sto) (o : Objs) (next : Int) : Prop where
  ob : ObjsOk dec o next
  fit : (image o next).length ≤ s.each * 512
  cap : (image o next).length ≤ 67108864
  turn : s.hd.turn + 1 ≤ mostAge
  age : s.hd.age + 1 ≤ mostAge
theorem turned_ok {dec : List UInt8 → Bool} {s : Sto} {n : Nat} {f : Nat → List UInt8} {o0 : Objs} {n0 : Int} {rs : List (List UInt8)} (h : Inv dec s n f o0 n0 rs) {o : Objs} {next : Int} (L : Lays dec s o next) : (turned s o next).Ok := by
  have hm : mostAge = 4611686018427387904 := rfl
  have hcr := crc_le (image o next)
  have t1 := h.hok.t1
  have a1 := h.hok.a1
  have f1 := h.hok.f1
  have f2 := h.hok.f2
  have h1 := L.cap
  have h2 := L.turn
  have h3 := L.age
  exact ⟨by show 1 ≤ s.hd.turn + 1; omega, by show s.hd.turn + 1 ≤ _; omega, by show 0 ≤ 1 - s.hd.half; omega, by show 1 - s.hd.half ≤ 1; omega, by show (0 : Int) ≤ ((image o next).length : Int); omega, by show ((image o next).length : Int) ≤ 67108864; omega, by show (0 : Int) ≤ ((crc (image o next) : Nat) : Int); omega, by show ((crc (image o next) : Nat) : Int) ≤ 4294967296; omega, by show 1 ≤ s.hd.age + 1; omega, by show s.hd.age + 1 ≤ _; omega⟩
inductive Torn (dec : List UInt8 → Bool) (s : Sto) (n : Nat) (f : Nat → List UInt8) (o : Objs) (next : Int) (d : Dk) : Prop
  | old (f' : Nat → List UInt8) (h : Live d n f') (hw : d.waits = []) (hf : ∀ i, i < n → (i < 2 + s.count + (1 - s.hd.half).toNat * s.each ∨ 2 + s.count + (1 - s.hd.half).toNat * s.each + s.each ≤ i) → f' i = f i)
  | mid (h : Live d n (fMid s o next f)) (hw : d.waits = [])
  | fin (h : Live d n (fFin s o next f)) (hw : d.waits = [])
theorem turnOver_crash {dec : List UInt8 → Bool} {s : Sto} {n : Nat} {f : Nat → List UInt8} {o0 : Objs} {n0 : Int} {rs : List (List UInt8)} (h : Inv dec s n f o0 n0 rs) {o : Objs} {next : Int} (L : Lays dec s o next) {d : Dk} (hd : Powr d n f [] false) (picks : List Int) :
    (s.turnOver o next d).1 = .ok (turnS s o next) ∧ Powr (s.turnOver o next d).2 n (fFin s o next f) [] false ∨ (s.turnOver o next d).1 = .error 8 ∧ Torn dec s n f o next ((s.turnOver o next d).2.crash picks) := by
  have hm : mostAge = 4611686018427387904 := rfl
  have hg := h.geo
  have hc3 := h.c3
  have hla : s.log.age = s.hd.age := by rw [h.log]
  have hlf : s.log.first = 2 := by rw [h.log]
  have hlc : s.log.count = s.count := by rw [h.log]
  have t1 := h.hok.t1
  have a1 := h.hok.a1
  have f1 := h.hok.f1
  have f2 := h.hok.f2
  have hok := turned_ok h L
  have hfit := L.fit
  have hage := L.age
  have hpos : ((2 + s.count : Nat) : Int) + (1 - s.hd.half) * s.each = ((2 + s.count + (1 - s.hd.half).toNat * s.each : Nat) : Int) := by
    obtain ⟨a, ha⟩ : ∃ a : Nat, 1 - s.hd.half = (a : Int) := ⟨(1 - s.hd.half).toNat, by omega⟩
    rw [ha, Int.toNat_natCast]
    have e : ((a * s.each : Nat) : Int) = (a : Int) * (s.each : Int) := by simp
    omega
  have hch : (chunks 512 (full (image o next))).length ≤ s.each := by
    rw [full_chunks]
    omega
  have hin : 2 + s.count + (1 - s.hd.half).toNat * s.each + s.each ≤ n := by
    have h2 : (1 - s.hd.half).toNat * s.each ≤ 1 * s.each := Nat.mul_le_mul_right _ (by omega)
    omega
  have hl := hd_len hok
  have hfl : (full (turned s o next).bytes).length = 512 := by rw [full_pad hl.1 hl.2]; exact pad_len hl.1
  have hpl : (pad (logHead (s.hd.age + 1))).length = 512 := pad_len (logHead_len (by omega) hage)
  -- what a turning over does
  have hdef : s.turnOver o next d = ((writesD ((2 + s.count + (1 - s.hd.half).toNat * s.each : Nat) : Int) (chunks 512 (full (image o next)))).andThen fun _ => barrierD.andThen fun _ => (writeD (((1 - (s.hd.turn + 1) % 2).toNat : Nat) : Int) (full (turned s o next).bytes)).andThen fun _ => barrierD.andThen fun _ =>
      (writeD ((2 + (1 - (s.hd.age + 1) % 2).toNat : Nat) : Int) (pad (logHead (s.hd.age + 1)))).andThen fun _ => barrierD.andThen fun _ => DM.ret (turnS s o next)) d := by
    unfold Sto.turnOver laid Lg.truncate turnS turned
    simp only [hla, hlf, hlc]
    rw [hpos, show (1 : Int) - (s.hd.turn + 1) % 2 = (((1 - (s.hd.turn + 1) % 2).toNat : Nat) : Int) by omega, show (((2 : Nat) : Int) + (1 - (s.hd.age + 1) % 2)) = ((2 + (1 - (s.hd.age + 1) % 2).toNat : Nat) : Int) by omega]
    simp only [Int.toNat_natCast]
    unfold DM.andThen DM.ret
    dsimp only
    cases writesD ((2 + s.count + (1 - s.hd.half).toNat * s.each : Nat) : Int) (chunks 512 (full (image o next))) d with
    | mk r d1 =>
      cases r with
      | error e => rfl
      | ok u =>
        dsimp only
        cases barrierD d1 with
        | mk r d2 =>
          cases r with
          | error e => rfl
          | ok u =>
            dsimp only
            cases writeD (((1 - (s.hd.turn + 1) % 2).toNat : Nat) : Int) (full (Hd2.bytes ⟨s.hd.turn + 1, 1 - s.hd.half, (image o next).length, (crc (image o next) : Nat), s.hd.age + 1⟩)) d2 with
            | mk r d3 =>
              cases r with
              | error e => rfl
              | ok u =>
                dsimp only
                cases barrierD d3 with
                | mk r d4 =>
                  cases r with
                  | error e => rfl
                  | ok u =>
                    dsimp only
                    cases writeD ((2 + (1 - (s.hd.age + 1) % 2).toNat : Nat) : Int) (pad (logHead (s.hd.age + 1))) d4 with
                    | mk r d5 =>
                      cases r with
                      | error e => rfl
                      | ok u =>
                        dsimp only
                        cases barrierD d5 with
                        | mk r d6 => cases r <;> rfl
  rw [hdef]
  clear hdef
  -- the power goes while the half is written
  have old : ∀ (d' : Dk) (ws' : List (Nat × List UInt8)), Powr d' n f ws' true → (∀ x ∈ ws', x ∈ pairs (2 + s.count + (1 - s.hd.half).toNat * s.each) (chunks 512 (full (image o next)))) → Torn dec s n f o next (d'.crash picks) := fun d' ws' hp hw => by
    obtain ⟨f', h1, h2, h3⟩ := crash_any hp picks
    refine .old f' h1 h2 (fun i hi ho => ?_)
    rcases h3 i hi with e | ⟨b, hb, _⟩
    · exact e
    · have := pairs_at _ _ _ (hw _ hb)
      dsimp only at this
      omega
  rcases writes_step (chunks 512 (full (image o next))) (2 + s.count + (1 - s.hd.half).toNat * s.each) d [] hd (by omega) (chunks_eq (by omega) _ _ (Nat.le_refl _) (full_len _)) with ⟨d1, e1, h1⟩ | ⟨d1, ws', e1, h1, hw1⟩
  case inr =>
    rw [andThen_no' e1]
    exact .inr ⟨rfl, old _ _ h1 (fun x hx => by rcases hw1 x hx with hx | hx; cases hx; exact hx)⟩
  rw [andThen_ok' e1]
  rw [List.nil_append] at h1
  rcases barrier_step h1 with ⟨d2, e2, h2⟩ | ⟨d2, e2, h2⟩
  case inr =>
    rw [andThen_no' e2]
    exact .inr ⟨rfl, old _ _ h2 (fun x hx => hx)⟩
  rw [andThen_ok' e2]
  rw [applied_pairs] at h2
  have hhalf : ∀ i, (i < 2 + s.count + (1 - s.hd.half).toNat * s.each ∨ 2 + s.count + (1 - s.hd.half).toNat * s.each + s.each ≤ i) → updL f (2 + s.count + (1 - s.hd.half).toNat * s.each) (chunks 512 (full (image o next))) i = f i := fun i hi => updL_out _ _ _ _ (by omega)
  rcases write_step h2 (i := (1 - (s.hd.turn + 1) % 2).toNat) (show _ < n by omega) hfl with ⟨d3, e3, h3⟩ | ⟨d3, e3, h3⟩
  case inr =>
    rw [andThen_no' e3]
    obtain ⟨f', g1, g2, g3⟩ := crash_any h3 picks
    refine .inr ⟨rfl, .old f' g1 g2 (fun i hi ho => ?_)⟩
    rcases g3 i hi with e | ⟨b, hb, _⟩
    · rw [e, hhalf i ho]
    · cases hb
  rw [andThen_ok' e3]
  rw [List.nil_append] at h3
  rcases barrier_step h3 with ⟨d4, e4, h4⟩ | ⟨d4, e4, h4⟩
  case inr =>
    rw [andThen_no' e4]
    obtain ⟨f', g1, g2, g3⟩ := crash_any h4 picks
    right
    refine ⟨rfl, ?_⟩
    by_cases hp : f' (1 - (s.hd.turn + 1) % 2).toNat = full (turned s o next).bytes
    · refine .mid (g1.congr (fun i hi => ?_)) g2
      unfold fMid fHalf
      by_cases e : i = (1 - (s.hd.turn + 1) % 2).toNat
      · rw [e, upd_same]; exact hp
      · rw [upd_other e]
        rcases g3 i hi with e' | ⟨b, hb, _⟩
        · exact e'
        · rw [List.mem_singleton] at hb
          cases hb
          exact absurd rfl e
    · refine .old f' g1 g2 (fun i hi ho => ?_)
      rcases g3 i hi with e | ⟨b, hb, e⟩
      · rw [e, hhalf i ho]
      · rw [List.mem_singleton] at hb
        cases hb
        exact absurd e hp
  rw [andThen_ok' e4]
  have h4' : Powr d4 n (fMid s o next f) [] false := h4
  rcases write_step h4' (i := 2 + (1 - (s.hd.age + 1) % 2).toNat) (show _ < n by omega) hpl with ⟨d5, e5, h5⟩ | ⟨d5, e5, h5⟩
  case inr =>
    rw [andThen_no' e5]
    obtain ⟨f', g1, g2, g3⟩ := crash_any h5 picks
    refine .inr ⟨rfl, .mid (g1.congr (fun i hi => ?_)) g2⟩
    rcases g3 i hi with e | ⟨b, hb, _⟩
    · exact e
    · cases hb
  rw [andThen_ok' e5]
  rw [List.nil_append] at h5
  rcases barrier_step h5 with ⟨d6, e6, h6⟩ | ⟨d6, e6, h6⟩
  case inr =>
    rw [andThen_no' e6]
    obtain ⟨f', g1, g2, g3⟩ := crash_any h6 picks
    right
    refine ⟨rfl, ?_⟩
    by_cases hp : f' (2 + (1 - (s.hd.age + 1) % 2).toNat) = pad (logHead (s.hd.age + 1))
    · refine .fin (g1.congr (fun i hi => ?_)) g2
      unfold fFin
      by_cases e : i = 2 + (1 - (s.hd.age + 1) % 2).toNat
      · rw [e, upd_same]; exact hp
      · rw [upd_other e]
        rcases g3 i hi with e' | ⟨b, hb, _⟩
        · exact e'
        · rw [List.mem_singleton] at hb
          cases hb
          exact absurd rfl e
    · refine .mid (g1.congr (fun i hi => ?_)) g2
      rcases g3 i hi with e | ⟨b, hb, e⟩
      · exact e
      · rw [List.mem_singleton] at hb
        cases hb
        exact absurd e hp
  rw [andThen_ok' e6]
  exact .inl ⟨rfl, h6⟩
theorem inv_congr {dec : List UInt8 → Bool} {s : Sto} {n : Nat} {f f' : Nat → List UInt8} {o0 : Objs} {n0 : Int} {rs : List (List UInt8)} (h : Inv dec s n f o0 n0 rs) (hf : ∀ i, i < n → (i < 2 + s.count + (1 - s.hd.half).toNat * s.each ∨ 2 + s.count + (1 - s.hd.half).toNat * s.each + s.each ≤ i) → f' i = f i) : Inv dec s n f' o0 n0 rs := by
  have hg := h.geo
  have hc3 := h.c3
  have t1 := h.hok.t1
  have a1 := h.hok.a1
  have f1 := h.hok.f1
  have f2 := h.hok.f2
  have hfit := h.fit
  have hro := h.room
  have lo : ∀ i, i < 2 + s.count → f' i = f i := fun i hi => hf i (by omega) (by omega)
  exact { h with
    img := fun i p hp => by
      have hi := (List.getElem?_eq_some_iff.1 hp).1
      rw [full_chunks] at hi
      rw [hf _ ?_ ?_]
      · exact h.img i p hp
      · have : s.hd.half.toNat * s.each ≤ 1 * s.each := Nat.mul_le_mul_right _ (by omega)
        omega
      · have : s.hd.half = 0 ∨ s.hd.half = 1 := by omega
        rcases this with e | e <;> rw [e] <;> simp <;> omega
    recs := recsAt_congr rs 0 2 (fun j h1 h2 => lo _ (by omega)) h.recs
    hd1 := by rw [lo _ (by omega)]; exact h.hd1
    hd2 := by rw [lo _ (by omega)]; exact h.hd2
    lg1 := by rw [lo _ (by omega)]; exact h.lg1
    lg2 := by rw [lo _ (by omega)]; exact h.lg2
    free := fun j h1 h2 => by rw [lo _ (by omega)]; exact h.free j h1 h2
    fut := fun j a h1 h2 h3 => by rw [lo _ (by omega)]; exact h.fut j a h1 h2 h3 }
theorem turned_inv {dec : List UInt8 → Bool} {s : Sto} {n : Nat} {f : Nat → List UInt8} {o0 : Objs} {n0 : Int} {rs : List (List UInt8)} (h : Inv dec s n f o0 n0 rs) {o : Objs} {next : Int} (L : Lays dec s o next) : Inv dec (turnS s o next) n (fFin s o next f) o next [] := by
  have hg := h.geo
  have hc3 := h.c3
  have t1 := h.hok.t1
  have a1 := h.hok.a1
  have hage := L.age
  have g1 : ∀ j, 2 ≤ j → j < s.count → fFin s o next f (2 + j) = f (2 + j) := fun j h1 h2 => by
    unfold fFin fMid fHalf
    rw [upd_other (by omega), upd_other (by omega), updL_out _ _ _ _ (Or.inl (by omega))]
  refine { c3 := hc3, e1 := h.e1, geo := hg, nb := h.nb, ob0 := L.ob, fit := L.fit, hsz := rfl, hsm := rfl, img := ?_, recs := trivial, log := rfl, room := by show 2 + 0 ≤ s.count; omega, play := rfl, hok := turned_ok h L, hd1 := ?_, hd2 := ?_, lg1 := ?_, lg2 := ?_, free := ?_, fut := ?_, obs := L.ob }
  · intro i p hp
    show fFin s o next f (2 + s.count + (1 - s.hd.half).toNat * s.each + i) = p
    unfold fFin fMid fHalf
    rw [upd_other (by omega), upd_other (by omega)]
    exact updL_in _ _ _ _ _ hp
  · show fFin s o next f (1 - (s.hd.turn + 1) % 2).toNat = full (turned s o next).bytes
    unfold fFin fMid
    rw [upd_other (by omega), upd_same]
  · show (readHd (fFin s o next f ((s.hd.turn + 1) % 2).toNat)).turn < s.hd.turn + 1
    unfold fFin fMid fHalf
    rw [upd_other (by omega), upd_other (by omega), updL_out _ _ _ _ (Or.inl (by omega)), show ((s.hd.turn + 1) % 2).toNat = (1 - s.hd.turn % 2).toNat by omega, h.hd1, readHd_full h.hok]
    omega
  · show fFin s o next f (2 + (1 - (s.hd.age + 1) % 2).toNat) = _
    exact upd_same ..
  · show ageOf (fFin s o next f (2 + ((s.hd.age + 1) % 2).toNat)) < s.hd.age + 1
    unfold fFin fMid fHalf
    rw [upd_other (by omega), upd_other (by omega), updL_out _ _ _ _ (Or.inl (by omega)), show ((s.hd.age + 1) % 2).toNat = (1 - s.hd.age % 2).toNat by omega, h.lg1, ageOf_full a1 (by omega)]
    omega
  · intro j h1 h2
    have h1' : 2 ≤ j := by have : 2 + 0 ≤ j := h1; omega
    show NoRec (fFin s o next f (2 + j)) (s.hd.age + 1)
    rw [g1 j h1' h2]
    exact h.fut j _ h1' h2 (by omega)
  · intro j a h1 h2 h3
    have h3' : s.hd.age + 1 < a := h3
    show NoRec (fFin s o next f (2 + j)) a
    rw [g1 j h1 h2]
    exact h.fut j _ h1 h2 (by omega)
theorem load_mid {dec : List UInt8 → Bool} {s : Sto} {n : Nat} {f : Nat → List UInt8} {o0 : Objs} {n0 : Int} {rs : List (List UInt8)} (h : Inv dec s n f o0 n0 rs) {f' : Nat → List UInt8} (hf : ∀ i, i < n → (i < 2 ∨ 2 + s.count ≤ i) → f' i = f i) : RunsTo (load dec s.count s.each) n f' (s.hd, o0, n0) f' := by
  have z0 : f' 0 = f 0 := hf 0 (by have := h.geo; have := h.c3; omega) (by omega)
  have z1 : f' 1 = f 1 := hf 1 (by have := h.geo; have := h.c3; omega) (by omega)
  have hg := h.geo
  have hc := h.c3
  have he := h.e1
  have t1 := h.hok.t1
  have hrd := readHd_full h.hok
  unfold load
  refine (readD_live (show 0 < n by omega)).andThen ((readD_live (show 1 < n by omega)).andThen ?_)
  have hh : laterHd (laterHd noHd (f' 0)) (f' 1) = s.hd := by
    rw [z0, z1]
    by_cases hp : s.hd.turn % 2 = 1
    · have h1 := h.hd1
      have h2 := h.hd2
      rw [hp] at h1 h2
      have e1 : f 0 = full s.hd.bytes := h1
      have e2 : (readHd (f 1)).turn < s.hd.turn := h2
      have ea : laterHd noHd (f 0) = s.hd := laterHd_of s.hd (by rw [e1]; exact hrd) (by show (0 : Int) < _; omega)
      rw [ea]
      exact laterHd_no (by omega)
    · have hp0 : s.hd.turn % 2 = 0 := by omega
      have h1 := h.hd1
      have h2 := h.hd2
      rw [hp0] at h1 h2
      have e1 : f 1 = full s.hd.bytes := h1
      have e2 : (readHd (f 0)).turn < s.hd.turn := h2
      refine laterHd_of s.hd (by rw [e1]; exact hrd) ?_
      unfold laterHd
      split
      · exact e2
      · show (0 : Int) < _; omega
  simp only [hh]
  have hsz := h.hsz
  have hft := h.fit
  rw [if_neg (by rw [hsz]; omega)]
  have hk : (s.hd.size.toNat + 511) / 512 = (chunks 512 (full (image o0 n0))).length := by rw [full_chunks, hsz, Int.toNat_natCast]
  have hhalf : 0 ≤ s.hd.half ∧ s.hd.half ≤ 1 := ⟨h.hok.f1, h.hok.f2⟩
  have hpos : ((2 + s.count : Nat) : Int) + s.hd.half * s.each = ((2 + s.count + s.hd.half.toNat * s.each : Nat) : Int) := by
    obtain ⟨a, ha⟩ : ∃ a : Nat, s.hd.half = (a : Int) := ⟨s.hd.half.toNat, by omega⟩
    rw [ha, Int.toNat_natCast]
    have e : ((a * s.each : Nat) : Int) = (a : Int) * (s.each : Int) := by simp
    omega
  have hin : 2 + s.count + s.hd.half.toNat * s.each + (chunks 512 (full (image o0 n0))).length ≤ n := by
    rw [full_chunks]
    have h1 : ((image o0 n0).length + 511) / 512 ≤ s.each := by omega
    have h2 : s.hd.half.toNat * s.each ≤ 1 * s.each := Nat.mul_le_mul_right _ (by omega)
    omega
  rw [hk, hpos]
  refine (readsD_live _ _ hin).andThen ?_
  rw [range_flat _ _ (fun i p hp => by rw [hf _ (by have := (List.getElem?_eq_some_iff.1 hp).1; omega) (by omega)]; exact h.img i p hp), chunks_flat (by omega) _ _ (Nat.le_refl _), hsz, Int.toNat_natCast, full_take, readImage_full h.ob0]
  simp only
  rw [if_pos h.hsm.symm]
  exact RunsTo.ret _ _ _
theorem log_mid {dec : List UInt8 → Bool} {s : Sto} {n : Nat} {f : Nat → List UInt8} {o0 : Objs} {n0 : Int} {rs : List (List UInt8)} (h : Inv dec s n f o0 n0 rs) {f' : Nat → List UInt8} (hag : ∀ j, 2 ≤ j → j < 2 + s.count → f' j = f j) : RunsTo (logOpen s.count) n f' (s.log, rs) f' := fun d hd => by
  have hg := h.geo
  have hc := h.c3
  have hb := h.nb
  have hro := h.room
  have hm : mostAge = 4611686018427387904 := rfl
  have a1 := h.hok.a1
  have a2 := h.hok.a2
  have n2 : d.now 2 = f 2 := (hd.now 2 (by omega)).trans (hag 2 (by omega) (by omega))
  have n3 : d.now 3 = f 3 := (hd.now 3 (by omega)).trans (hag 3 (by omega) (by omega))
  have hf := ageOf_full (age := s.hd.age) a1 (by omega)
  have ha : max (max 0 (ageOf (d.now 2))) (ageOf (d.now 3)) = s.hd.age := by
    rw [n2, n3]
    have h1 := h.lg1
    have h2 := h.lg2
    by_cases hp : s.hd.age % 2 = 1
    · rw [hp] at h1 h2
      have e1 : f 2 = pad (logHead s.hd.age) := h1
      have e2 : ageOf (f 3) < s.hd.age := h2
      rw [e1, hf]
      omega
    · have hp0 : s.hd.age % 2 = 0 := by omega
      rw [hp0] at h1 h2
      have e1 : f 3 = pad (logHead s.hd.age) := h1
      have e2 : ageOf (f 2) < s.hd.age := h2
      rw [e1, hf]
      omega
  have hl := recs_count rs
  have hr := records_full (s := fun i => d.now (2 + i)) (count := s.count) (age := s.hd.age) a1 (by omega) rs s.count 0 2 (recsAt_congr rs 0 2 (fun j h1 h2 => (hd.now _ (by omega)).trans (hag _ (by omega) (by omega))) h.recs) (by omega) (by omega) hro (by omega) (fun hlt => by
    show NoRec (d.now (2 + (2 + sectorsOf rs))) _
    rw [hd.now _ (by omega), hag _ (by omega) (by omega)]
    exact h.free _ (by omega) hlt)
  refine ⟨d, ?_, hd⟩
  unfold logOpen
  rw [if_neg (by rw [hd.off]; decide)]
  simp only [ha]
  rw [if_neg (by omega), hr, h.log]
  simp
def Still {α : Type} (m : DM α) : Prop := ∀ d, (m d).2 = d
theorem Still.ret {α : Type} (a : α) : Still (DM.ret a) := fun d => rfl
theorem Still.no {α : Type} (e : Int) : Still (DM.no e : DM α) := fun d => rfl
theorem Still.andThen {α β : Type} {m : DM α} {f : α → DM β} (h : Still m) (k : ∀ a, Still (f a)) : Still (m.andThen f) := fun d => by
  unfold DM.andThen
  have := h d
  cases hm : m d with
  | mk r d' =>
    rw [hm] at this
    have e : d' = d := this
    subst e
    cases r with
    | ok a => exact k a _
    | error e => rfl
theorem still_read (i : Int) : Still (readD i) := fun d => by unfold readD; split <;> rfl
theorem still_reads : ∀ (k : Nat) (i : Int), Still (readsD i k)
  | 0, i => Still.ret _
  | k + 1, i => (still_read i).andThen fun _ => (still_reads k (i + 1)).andThen fun _ => Still.ret _
theorem still_load (dec : List UInt8 → Bool) (count each : Nat) : Still (load dec count each) := by
  unfold load
  refine (still_read 0).andThen fun b0 => (still_read 1).andThen fun b1 => ?_
  dsimp only
  split
  · exact Still.no _
  · refine (still_reads _ _).andThen fun b => ?_
    split
    · exact Still.no _
    · split
      · exact Still.ret _
      · exact Still.no _
theorem still_logOpen (count : Nat) : Still (logOpen count) := fun d => by
  unfold logOpen
  split
  · rfl
  · dsimp only
    split <;> rfl
theorem barrier_empty {d d' : Dk} {u : Unit} (h : barrierD d = (.ok u, d')) : d'.waits = [] := by
  unfold barrierD at h
  split at h
  · rename_i h0
    cases h
    unfold Dk.barrier at h0 ⊢
    split at h0
    · cases h0
    · rename_i h1
      rw [if_neg h1]
      split at h0
      · rename_i h2; exact absurd h0 h2
      · rename_i h2
        rw [if_neg h2]
  · cases h
theorem truncate_empty {l l' : Lg} {d d' : Dk} (h : l.truncate d = (.ok l', d')) : d'.waits = [] := by
  unfold Lg.truncate DM.andThen at h
  cases h1 : writeD (((l.first : Nat) : Int) + (1 - (l.age + 1) % 2)) (pad (logHead (l.age + 1))) d with
  | mk r d1 =>
    rw [h1] at h
    cases r with
    | error e => cases h
    | ok u =>
      dsimp only at h
      cases h2 : barrierD d1 with
      | mk r d2 =>
        rw [h2] at h
        cases r with
        | error e => cases h
        | ok u =>
          cases h
          exact barrier_empty h2
theorem Torn.empty {dec : List UInt8 → Bool} {s : Sto} {n : Nat} {f : Nat → List UInt8} {o : Objs} {next : Int} {d : Dk} (h : Torn dec s n f o next d) : d.waits = [] := by cases h <;> assumption
theorem Powr.of_live {d : Dk} {n : Nat} {f : Nat → List UInt8} (h : Live d n f) (hw : d.waits = []) : Powr d n f [] false := ⟨h.off, h.len, hw, (fun x hx => by cases hx), fun i hi => by
  have := h.now i hi
  unfold Dk.now at this
  rw [hw] at this
  exact this⟩
theorem open_mid {dec : List UInt8 → Bool} {s : Sto} {n : Nat} {f : Nat → List UInt8} {o0 : Objs} {n0 : Int} {rs : List (List UInt8)} (h : Inv dec s n f o0 n0 rs) {o : Objs} {next : Int} (L : Lays dec s o next) :
    RunsTo (openT dec s.count s.each) n (fMid s o next f) (turnS s o next) (fFin s o next f) := by
  have hg := h.geo
  have hc3 := h.c3
  have a1 := h.hok.a1
  have hage := L.age
  have hla : s.log.age = s.hd.age := by rw [h.log]
  have hlf : s.log.first = 2 := by rw [h.log]
  have hlc : s.log.count = s.count := by rw [h.log]
  have h1 : RunsTo (load dec s.count s.each) n (fMid s o next f) (turned s o next, o, next) (fMid s o next f) := load_mid (turned_inv h L) (f' := fMid s o next f) (fun i hi ho => by
    have ho' : i < 2 ∨ 2 + s.count ≤ i := ho
    unfold fFin
    rw [upd_other (by omega)])
  have h2 : RunsTo (logOpen s.count) n (fMid s o next f) (s.log, rs) (fMid s o next f) := log_mid h (fun j h1 h2 => by
    unfold fMid fHalf
    rw [upd_other (by omega), updL_out _ _ _ _ (Or.inl (by omega))])
  have h3 := truncate_live (n := n) (l := s.log) (f := fMid s o next f) (by rw [hla]; exact a1) (by rw [hla]; exact hage) (by rw [hlf]; omega)
  unfold openT
  refine h1.andThen (h2.andThen ?_)
  have e1 : (turned s o next).age = s.hd.age + 1 := rfl
  simp only [hla, e1]
  rw [show (s.hd.age + 1 - s.hd.age).toNat = 1 by omega, if_pos (by omega)]
  have h4 : RunsTo (truncates 1 (s.hd.age + 1) s.log) n (fMid s o next f) ⟨2, s.count, s.hd.age + 1, 0, 2⟩ (fFin s o next f) := by
    unfold truncates
    rw [hla, if_pos (by omega)]
    rw [hla, hlf, hlc] at h3
    exact h3.andThen (RunsTo.ret n _ _)
  exact h4.andThen (RunsTo.ret n _ _)
theorem torn_open {dec : List UInt8 → Bool} {s : Sto} {n : Nat} {f : Nat → List UInt8} {o0 : Objs} {n0 : Int} {rs : List (List UInt8)} (h : Inv dec s n f o0 n0 rs) {o : Objs} {next : Int} (L : Lays dec s o next) {d : Dk} (ht : Torn dec s n f o next d) :
    ∃ d' s' f', openT dec s.count s.each d = (.ok s', d') ∧ Live d' n f' ∧ ((s' = s ∧ Inv dec s n f' o0 n0 rs) ∨ (s' = turnS s o next ∧ Inv dec s' n f' o next [])) := by
  cases ht with
  | old f' h1 hw hf =>
    have hi := inv_congr h hf
    obtain ⟨d', e, h2⟩ := open_live hi d h1
    exact ⟨d', _, _, e, h2, .inl ⟨rfl, hi⟩⟩
  | mid h1 hw =>
    obtain ⟨d', e, h2⟩ := open_mid h L d h1
    exact ⟨d', _, _, e, h2, .inr ⟨rfl, turned_inv h L⟩⟩
  | fin h1 hw =>
    obtain ⟨d', e, h2⟩ := open_live (turned_inv h L) d h1
    exact ⟨d', _, _, e, h2, .inr ⟨rfl, turned_inv h L⟩⟩
end St
end Go.Proofs.YtcpgbekcbaelpaaGreatDoor
