/- The reference's heap: what only reads. -/
import Derived.Test.YtlbiapgikkjooaaRh1
import Derived.Outline
namespace Go.Proofs.Ytlbiapgikkjooaa
open Go.RowKit Go.Maps Hp
set_option linter.unusedSimpArgs false
set_option linter.unusedSectionVars false
set_option linter.unusedVariables false

def rv (r : Ref) : Value := .agg #[.bool r.obj, .int .i64 r.n]
section
variable {w : World} {q lim : Nat} {vl vs vp : Value} {L : List (Ob × Value)} {S : List Ref} {P : List (Int × Ref)}
set_option maxRecDepth 100000 in
theorem refNeed_any (o : Ob) (v : Value) (ao : Option Addr) (cap : Nat) (hv : v = .slice ao o.fields.length cap) (hl : o.fields.length ≤ 1000000) (hb : o.bytes.length ≤ 1000000) (hw : (o.raw = true → o.fields = []) ∧ (o.raw = false → o.bytes = [])) (w : World) :
    Calls Try.prog 53 #[.agg #[.int .i64 o.kind, v, .bool o.raw, .string ⟨o.bytes.toArray⟩]] w fun e w' => e = .returned (.int .i64 (o.size : Int)) ∧ Below w.heap.size w w' := by
  subst hv
  have hsz : (o.size : Int) = 1 + (o.fields.length : Int) + ((o.bytes.length : Int) + 7) / 8 := by
    unfold Ob.size
    cases hr : o.raw
    · rw [hw.2 hr]; simp
    · rw [hw.1 hr]; simp
  have hbs : (⟨o.bytes.toArray⟩ : ByteArray).size = o.bytes.length := by simp [ByteArray.size]
  have hb2 : ((⟨o.bytes.toArray⟩ : ByteArray).size : Int) ≤ 1000000 := by omega
  have HB := Lib.hid hbs
  have HS := Lib.hid hsz
  obtain ⟨s, hs⟩ : ∃ s : ByteArray, s = ⟨o.bytes.toArray⟩ := ⟨_, rfl⟩
  rw [← hs] at hb2 HB ⊢
  obtain ⟨n, hn⟩ : ∃ n, n = o.fields.length := ⟨_, rfl⟩
  rw [← hn] at hl HS ⊢
  have hb3 : (s.size : Int) = (o.bytes.length : Int) := by rw [hs, hbs]
  have HB3 := Lib.hid hb3
  clear hw hb hbs hsz hs hn hb3
  go_enter Try.func53, Try.ntmps53
  go_wp2
  go_ret
  refine ⟨?_, (Below.refl _ _).alloc (Nat.le_refl _) _⟩
  rw [HS.out, ← HB3.out]
  rfl
set_option maxRecDepth 100000 in
theorem refTop_out (h : RefIs w q lim vl vs vp L S P) (i : Int) (hi : i < 0 ∨ (S.length : Int) ≤ i) :
    Calls Try.prog 35 #[.pointer (some ⟨q, 0, none⟩), .int .i64 i] w fun e w' => e = .returned (rv (imm 0)) ∧ Below w.heap.size w w' := by
  have c2 : ∀ o, (w.alloc o).cell? ⟨q, 2, none⟩ = some vs := fun o => (h.alloc o).c2
  obtain ⟨ao, cap, rfl, h1, h2, _⟩ := h.rs.form
  clear h
  go_enter Try.func35, Try.ntmps35
  by_cases h0 : i < 0
  · clear hi
    go_wp2
    exact bodyPost_ret (v := rv (imm 0)) (by simp [results, Try.results35, go_sem, rv, imm]) rfl ⟨rfl, (Below.refl _ _).alloc (Nat.le_refl _) _⟩
  · have hi2 : (S.length : Int) ≤ i := by omega
    clear hi
    go_wp2
    exact bodyPost_ret (v := rv (imm 0)) (by simp [results, Try.results35, go_sem, rv, imm]) rfl ⟨rfl, (Below.refl _ _).alloc (Nat.le_refl _) _⟩
set_option maxRecDepth 100000 in
theorem refTop_in (h : RefIs w q lim vl vs vp L S P) (j k : Nat) (r : Ref) (hjk : j + k + 1 = S.length) (hr : S[j]? = some r) (hS : S.length ≤ 1000000) :
    Calls Try.prog 35 #[.pointer (some ⟨q, 0, none⟩), .int .i64 (k : Int)] w fun e w' => e = .returned (rv r) ∧ Below w.heap.size w w' := by
  have c2 : ∀ o, (w.alloc o).cell? ⟨q, 2, none⟩ = some vs := fun o => (h.alloc o).c2
  have hrs := fun o => (h.alloc o).rs
  obtain ⟨ao, cap, rfl, h1, h2, h3, h4⟩ := h.rs.form
  obtain ⟨g, rfl⟩ : ∃ g, ao = some ⟨g, 0, none⟩ := by
    cases ao with
    | none => have := h3 rfl; omega
    | some a => obtain ⟨g, rfl, _⟩ := h4 a rfl; exact ⟨g, rfl⟩
  obtain ⟨e1, e2⟩ := rcells_get hr
  have c3 : ∀ o, (w.alloc o).cell? ⟨g, j * 2, none⟩ = some (.bool r.obj) := fun o => by rw [(hrs o).cellAt _ (by rw [rcells_length]; omega)]; exact e1
  have c4 : ∀ o, (w.alloc o).cell? ⟨g, j * 2 + 1, none⟩ = some (.int .i64 r.n) := fun o => by rw [(hrs o).cellAt _ (by rw [rcells_length]; omega)]; exact e2
  have k0 : (0 : Int) ≤ (k : Int) := by omega
  have k1 : (k : Int) < (S.length : Int) := by omega
  have hl : (S.length : Int) ≤ 1000000 := by omega
  have w1 : IntKind.i64.wrap ((S.length : Int) - 1) = (S.length : Int) - 1 := IntWalk.i64_in _ (by omega)
  have w2 : IntKind.i64.wrap ((S.length : Int) - 1 - (k : Int)) = (j : Int) := by rw [IntWalk.i64_in _ (by omega)]; omega
  have j1 : (j : Int) < (S.length : Int) := by omega
  have j0 : (0 : Int) ≤ (j : Int) := by omega
  clear h hrs e1 e2 h1 h2 h3 h4 hr hS
  have HJ := Lib.hid hjk
  clear hjk
  go_enter Try.func35, Try.ntmps35
  go_wp2
  go_region_held3 (fun w' => w'.cell? ⟨q, 2, none⟩ = some (.slice (some ⟨g, 0, none⟩) S.length cap) ∧ w'.cell? ⟨g, j * 2, none⟩ = some (.bool r.obj) ∧ w'.cell? ⟨g, j * 2 + 1, none⟩ = some (.int .i64 r.n)) (go_keep) (fail)
  go_wp2
  exact bodyPost_ret (v := rv r) (by simp [results, Try.results35, go_sem, rv]) rfl ⟨rfl, ((Below.refl _ _).alloc (Nat.le_refl _) _).drew⟩
/-- A word of the heap. -/
theorem refField_out (h : RefIs w q lim vl vs vp L S P) (r : Ref) (i : Int) (hi : r.obj = false ∨ i < 0) :
    Calls Try.prog 36 #[.pointer (some ⟨q, 0, none⟩), rv r, .int .i64 i] w fun e w' => e = .returned (rv (imm 0)) ∧ Below w.heap.size w w' := by
  clear h
  obtain ⟨b, n⟩ := r
  unfold rv
  go_enter Try.func36, Try.ntmps36
  cases b
  · clear hi
    go_wp2
    go_quiet (fail)
    go_wp2
    exact bodyPost_ret (v := rv (imm 0)) (by simp [results, Try.results36, go_sem, rv, imm]) rfl ⟨rfl, ((below_drewN (((Below.refl _ _).alloc (Nat.le_refl _) _).alloc (by simp) _) _).setCell (by simp) _).setCell (by simp) _⟩
  · have hi2 : i < 0 := by simpa using hi
    have hd : decide (i < 0) = true := decide_eq_true hi2
    clear hi
    go_wp2
    go_quiet (fail)
    go_wp2
    exact bodyPost_ret (v := rv (imm 0)) (by simp [results, Try.results36, go_sem, rv, imm]) rfl ⟨rfl, ((below_drewN (((Below.refl _ _).alloc (Nat.le_refl _) _).alloc (by simp) _) _).setCell (by simp) _).setCell (by simp) _⟩
set_option maxRecDepth 100000 in
set_option maxHeartbeats 1600000 in
theorem refField_in (h : RefIs w q lim vl vs vp L S P) (j k : Nat) (o : Ob × Value) (ho : L[j]? = some o) (hL : L.length ≤ 1000000) (hf : o.1.fields.length ≤ 1000000) :
    Calls Try.prog 36 #[.pointer (some ⟨q, 0, none⟩), rv ⟨true, j⟩, .int .i64 (k : Int)] w fun e w' => e = .returned (rv (o.1.fields.getD k (imm 0))) ∧ Below w.heap.size w w' := by
  have jl := (List.getElem?_eq_some_iff.1 ho).1
  have c1 : ∀ a b, ((w.alloc a).alloc b).cell? ⟨q, 1, none⟩ = some vl := fun a b => ((h.alloc a).alloc b).c1
  have hrl := fun a b => ((h.alloc a).alloc b).rl
  have hrf := fun a b => ((h.alloc a).alloc b).rf o (List.mem_of_getElem? ho)
  obtain ⟨al, cl, rfl, l1, l2, l3, l4⟩ := h.rl.form
  obtain ⟨g, rfl⟩ : ∃ g, al = some ⟨g, 0, none⟩ := by
    cases al with
    | none => have := l3 rfl; omega
    | some a => obtain ⟨g, rfl, _⟩ := l4 a rfl; exact ⟨g, rfl⟩
  obtain ⟨e0, e1, e2, e3⟩ := ocells_get ho
  have hlen := ocells_length L
  have c2 : ∀ a b, ((w.alloc a).alloc b).cell? ⟨g, j * 4 + 1, none⟩ = some o.2 := fun a b => by rw [(hrl a b).cellAt _ (by omega)]; exact e1
  obtain ⟨af, cf, hv, f1, f2, f3, f4⟩ := (h.rf o (List.mem_of_getElem? ho)).form
  rw [hv] at c2 hrf
  have k0 : (0 : Int) ≤ (k : Int) := by omega
  have j0 : (0 : Int) ≤ (j : Int) := by omega
  have j1 : (j : Int) < (L.length : Int) := by omega
  have hd : decide ((k : Int) < 0) = false := decide_eq_false (by omega)
  by_cases hk : k < o.1.fields.length
  · obtain ⟨r, hr⟩ : ∃ r, o.1.fields[k]? = some r := ⟨_, List.getElem?_eq_getElem hk⟩
    obtain ⟨gf, rfl⟩ : ∃ g, af = some ⟨g, 0, none⟩ := by
      cases af with
      | none => have := f3 rfl; omega
      | some a => obtain ⟨g, rfl, _⟩ := f4 a rfl; exact ⟨g, rfl⟩
    obtain ⟨r0, r1⟩ := rcells_get hr
    have c3 : ∀ a b, ((w.alloc a).alloc b).cell? ⟨gf, k * 2, none⟩ = some (.bool r.obj) := fun a b => by rw [(hrf a b).cellAt _ (by rw [rcells_length]; omega)]; exact r0
    have c4 : ∀ a b, ((w.alloc a).alloc b).cell? ⟨gf, k * 2 + 1, none⟩ = some (.int .i64 r.n) := fun a b => by rw [(hrf a b).cellAt _ (by rw [rcells_length]; omega)]; exact r1
    have hg : o.1.fields.getD k (imm 0) = r := by rw [List.getD_eq_getElem?_getD, hr]; rfl
    rw [hg]
    have k1 : (k : Int) < (o.1.fields.length : Int) := by omega
    obtain ⟨nf, hnf⟩ : ∃ n, n = o.1.fields.length := ⟨_, rfl⟩
    rw [← hnf] at c2 k1
    have hd2 : decide (nf ≤ k) = false := decide_eq_false (by omega)
    have q1 : w.heap.size + 1 ≠ q := by have := lt_of_block h.hdr; omega
    have q2 : w.heap.size + 1 ≠ g := by have := h.rl.lt (k := g) rfl; omega
    have q3 : w.heap.size + 1 ≠ gf := by have := (h.rf o (List.mem_of_getElem? ho)).lt (k := gf) (by rw [hv]; rfl); omega
    have q4 : ¬ w.heap.size = w.heap.size + 1 := by omega
    clear h hrl hrf l1 l2 l3 l4 e0 e1 e2 e3 hlen hv f1 f2 f3 f4 r0 r1 hr hg hk hf hL jl ho hnf
    unfold rv
    go_enter Try.func36, Try.ntmps36
    go_wp2
    go_quiet (fail)
    go_wp2
    go_region_held3 (fun w' => w'.cell? ⟨q, 1, none⟩ = some (.slice (some ⟨g, 0, none⟩) L.length cl) ∧ w'.cell? ⟨g, j * 4 + 1, none⟩ = some (.slice (some ⟨gf, 0, none⟩) nf cf) ∧ w'.cell? ⟨gf, k * 2, none⟩ = some (.bool r.obj) ∧ w'.cell? ⟨gf, k * 2 + 1, none⟩ = some (.int .i64 r.n) ∧ w'.cell? ⟨w.heap.size, 1, none⟩ = some (.int .i64 (j : Int))) (go_keep) (fail)
    go_wp2
    exact bodyPost_ret (v := rv r) (by simp [results, Try.results36, go_sem, rv]) rfl ⟨rfl, ((below_drewN (((Below.refl _ _).alloc (Nat.le_refl _) _).alloc (by simp) _) _).setCell (by simp) _).setCell (by simp) _⟩
  · have hg : o.1.fields.getD k (imm 0) = imm 0 := by rw [List.getD_eq_getElem?_getD, List.getElem?_eq_none (by omega)]; rfl
    rw [hg]
    obtain ⟨nf, hnf⟩ : ∃ n, n = o.1.fields.length := ⟨_, rfl⟩
    rw [← hnf] at c2
    have hd2 : decide (nf ≤ k) = true := decide_eq_true (by omega)
    clear h hrl hrf l1 l2 l3 l4 e0 e1 e2 e3 hlen hv f1 f2 f3 f4 hg hk hf hL jl ho hnf
    unfold rv
    go_enter Try.func36, Try.ntmps36
    go_wp2
    go_quiet (fail)
    go_wp2
    exact bodyPost_ret (v := rv (imm 0)) (by simp [results, Try.results36, go_sem, rv, imm]) rfl ⟨rfl, ((below_drewN (((Below.refl _ _).alloc (Nat.le_refl _) _).alloc (by simp) _) _).setCell (by simp) _).setCell (by simp) _⟩
/-- What is pinned by a key. -/
def pinOf (P : List (Int × Ref)) (k : Int) : Option Ref := (P.find? fun x => x.1 == k).map (·.2)
def pinRes (P : List (Int × Ref)) (k : Int) : Value := .tuple #[rv ((pinOf P k).getD (imm 0)), .bool (pinOf P k).isSome]
theorem pinOf_none {P : List (Int × Ref)} {k : Int} (h : ∀ (j : Nat) x, P[j]? = some x → x.1 ≠ k) : pinOf P k = none := by
  unfold pinOf
  rw [List.find?_eq_none.2]
  · rfl
  · intro x hx
    obtain ⟨j, hj⟩ := List.getElem?_of_mem hx
    simpa using h j x hj
theorem pinOf_some {P : List (Int × Ref)} {k : Int} {i : Nat} {x : Int × Ref} (hi : P[i]? = some x) (hx : x.1 = k) (h : ∀ (j : Nat) y, j < i → P[j]? = some y → y.1 ≠ k) : pinOf P k = some x.2 := by
  have : P.find? (fun x => x.1 == k) = some x := by
    rw [List.find?_eq_some_iff_getElem]
    obtain ⟨hl, he⟩ := List.getElem?_eq_some_iff.1 hi
    exact ⟨by simp [hx], i, hl, he, fun j hj => by
      have := h j P[j] hj (List.getElem?_eq_getElem (by omega))
      simpa using this⟩
  unfold pinOf
  rw [this]
  rfl
def PinLoop (P : List (Int × Ref)) (key : Int) (W : World) (gk : Nat) (s6 : Value) (wr : World) : Prop :=
  ∃ i : Nat, s6 = .int .i64 i ∧ i + gk = P.length ∧ Hid (∀ (j : Nat) y, j < i → P[j]? = some y → y.1 ≠ key) ∧ wr = W
set_option maxRecDepth 100000 in
set_option maxHeartbeats 1600000 in
theorem refPinned_any (h : RefIs w q lim vl vs vp L S P) (key : Int) (hP : P.length ≤ 1000000) :
    Calls Try.prog 40 #[.pointer (some ⟨q, 0, none⟩), .int .i64 key] w fun e w' => e = .returned (pinRes P key) ∧ Below w.heap.size w w' := by
  have c3 : ∀ a, (w.alloc a).cell? ⟨q, 3, none⟩ = some vp := fun a => (h.alloc a).c3
  obtain ⟨ao, cap, rfl, h1, h2, h3, h4⟩ := h.rp.form
  have hrp := fun a => (h.alloc a).rp
  have hpl := pcells_length P
  have hc : ∀ (i : Nat) (x : Int × Ref), P[i]? = some x → ∃ g, ao = some ⟨g, 0, none⟩ ∧ (∀ a, (w.alloc a).cell? ⟨g, i * 3, none⟩ = some (.int .i64 x.1)) ∧ (∀ a, (w.alloc a).cell? ⟨g, i * 3 + 1, none⟩ = some (.bool x.2.obj)) ∧ (∀ a, (w.alloc a).cell? ⟨g, i * 3 + 2, none⟩ = some (.int .i64 x.2.n)) := fun i x hx => by
    have hl := (List.getElem?_eq_some_iff.1 hx).1
    obtain ⟨g, rfl⟩ : ∃ g, ao = some ⟨g, 0, none⟩ := by
      cases ao with
      | none => have := h3 rfl; omega
      | some a => obtain ⟨g, rfl, _⟩ := h4 a rfl; exact ⟨g, rfl⟩
    obtain ⟨e0, e1, e2⟩ := pcells_get hx
    exact ⟨g, rfl, fun a => by rw [(hrp a).cellAt _ (by omega)]; exact e0, fun a => by rw [(hrp a).cellAt _ (by omega)]; exact e1, fun a => by rw [(hrp a).cellAt _ (by omega)]; exact e2⟩
  have HCC := Lib.hid hc
  obtain ⟨R, hR⟩ : ∃ R, R = pinRes P key := ⟨_, rfl⟩
  rw [← hR]
  have HR := Lib.hid hR
  have hl : (P.length : Int) ≤ 1000000 := by omega
  clear hc hrp hpl h h1 h2 h3 h4 hR
  have HL : Hid (∀ W, PinLoop P key W P.length (.int .i64 0) W) := fun W => ⟨0, rfl, Nat.zero_add _, fun j y hj => absurd hj (Nat.not_lt_zero _), rfl⟩
  go_enter Try.func40, Try.ntmps40
  go_wp2
  go_loopg [6] P.length (fun gk s6 wr => PinLoop P key (w.alloc (.cells #[.bool false, .int .i64 0] 27)) gk s6 wr)
  case atStart => exact HL.out _
  case round =>
    clear HL
    obtain ⟨i, rfl, hig, HN, rfl⟩ := hrel
    have i0 : (0 : Int) ≤ (i : Int) := by omega
    by_cases hlt : i < P.length
    · obtain ⟨x, hx⟩ : ∃ x, P[i]? = some x := ⟨_, List.getElem?_eq_getElem hlt⟩
      obtain ⟨g, rfl, d0, d1, d2⟩ := HCC.out i x hx
      have i1 : (i : Int) < (P.length : Int) := by omega
      have HIG := Lib.hid hig
      have HX := Lib.hid hx
      clear hig hx HCC
      by_cases hk : x.1 = key
      · have HV : Hid (R = .tuple #[rv x.2, .bool true]) := by
          show _ = _
          rw [HR.out]
          unfold pinRes
          rw [pinOf_some HX.out hk HN.out]
          rfl
        have q := hk
        clear hk
        go_wp2
        exact bodyPost_ret (v := .tuple #[rv x.2, .bool true]) (by simp [results, Try.results40, go_sem, rv]) rfl ⟨by rw [HV.out], (Below.refl _ _).alloc (Nat.le_refl _) _⟩
      · have q : (x.1 == key) = false := beq_eq_false_iff_ne.2 hk
        have HK := Lib.hid hk
        clear hk
        go_wp2
        go_roundg (gk - 1)
        case measure => have := HIG.out; omega
        case rel => exact ⟨i + 1, by go_num, by have := HIG.out; omega, fun j y hj hy => by
          rcases Nat.lt_or_ge j i with hji | hji
          · exact HN.out j y hji hy
          · obtain rfl : j = i := by omega
            rw [HX.out] at hy; cases hy; exact HK.out, rfl⟩
    · have hge : ¬ (i : Int) < (P.length : Int) := by omega
      have HV : Hid (R = .tuple #[rv (imm 0), .bool false]) := by
        show _ = _
        rw [HR.out]
        unfold pinRes
        rw [pinOf_none (fun j y hy => HN.out j y (by have := (List.getElem?_eq_some_iff.1 hy).1; omega) hy)]
        rfl
      clear hig HCC
      go_wp2
      exact bodyPost_ret (v := .tuple #[rv (imm 0), .bool false]) (by simp [results, Try.results40, go_sem, rv, imm]) rfl ⟨by rw [HV.out], (Below.refl _ _).alloc (Nat.le_refl _) _⟩
end
end Go.Proofs.Ytlbiapgikkjooaa
