/- Texts of the proof, in build order: StAt, St1, St2, St3, St5. -/
import Derived.Test.YtcpgbekcbaelpaaGreatDoorF28
import Derived.Test.YtcpgbekcbaelpaaGreatDoorF30
import Derived.Test.YtcpgbekcbaelpaaGreatDoorF25
set_option linter.unusedVariables false
set_option linter.unusedSimpArgs false
set_option linter.unusedSectionVars false
/- Layer 7: a store in memory. -/
namespace Go.Proofs.YtcpgbekcbaelpaaGreatDoor
open Go.RowKit Go.Maps Wr
set_option linter.unusedVariables false
set_option linter.unusedSimpArgs false
abbrev storeO (mv : Value) (next : Int) (h : St.Hd2) (g : Nat) (lv : Value) (fr each : Int) : Obj :=
  .cells #[mv, .int .i64 next, .int .i64 h.turn, .int .i64 h.half, .int .i64 h.size, .int .i64 h.sum, .int .i64 h.age, .pointer (some ⟨g, 0, none⟩), lv, .int .i64 fr, .int .i64 each] 107 (0, 0)
theorem cells11 {w : World} {b : Nat} {x0 x1 x2 x3 x4 x5 x6 x7 x8 x9 x10 : Value} {T : TypeId} (h : w.heap[b]? = some (.cells #[x0, x1, x2, x3, x4, x5, x6, x7, x8, x9, x10] T (0, 0))) :
    w.cell? ⟨b, 0, none⟩ = some x0 ∧ w.cell? ⟨b, 1, none⟩ = some x1 ∧ w.cell? ⟨b, 2, none⟩ = some x2 ∧ w.cell? ⟨b, 3, none⟩ = some x3 ∧ w.cell? ⟨b, 4, none⟩ = some x4 ∧ w.cell? ⟨b, 5, none⟩ = some x5 ∧ w.cell? ⟨b, 6, none⟩ = some x6 ∧ w.cell? ⟨b, 7, none⟩ = some x7 ∧ w.cell? ⟨b, 8, none⟩ = some x8 ∧ w.cell? ⟨b, 9, none⟩ = some x9 ∧ w.cell? ⟨b, 10, none⟩ = some x10 ∧ (∀ j, w.frozen? ⟨b, j, none⟩ = false) :=
  ⟨by simp [World.cell?, h], by simp [World.cell?, h], by simp [World.cell?, h], by simp [World.cell?, h], by simp [World.cell?, h], by simp [World.cell?, h], by simp [World.cell?, h], by simp [World.cell?, h], by simp [World.cell?, h], by simp [World.cell?, h], by simp [World.cell?, h], fun j => by simp [World.frozen?, h]⟩
def OvIn (w : World) (A : Nat → Prop) (l : OV) : Prop := ∀ x ∈ l, BIn w A x.2.1 x.2.2
theorem OvIn.turn {w w' : World} {A M : Nat → Prop} {l : OV} (h : OvIn w A l) (ht : Turn M w w') (hA : ∀ k, A k → ¬ M k) : OvIn w' A l := fun x hx => (h x hx).turn ht hA
theorem OvIn.mono {w : World} {A A' : Nat → Prop} {l : OV} (h : OvIn w A l) (hA : ∀ k, k < w.heap.size → A k → A' k) : OvIn w A' l := fun x hx => (h x hx).mono hA
theorem OvIn.del {w : World} {A : Nat → Prop} {l : OV} (h : OvIn w A l) (id : Int) : OvIn w A (ovDel id l) := fun x hx => h x (mem_ovDel.1 hx).1
theorem OvIn.put {w : World} {A : Nat → Prop} {l : OV} (h : OvIn w A l) (id : Int) {v : Value} {b : List UInt8} (hv : BIn w A v b) : OvIn w A (ovPut id v b l) := fun x hx => by
  rcases mem_ovIns.1 hx with rfl | hx
  · exact hv
  · exact h x (mem_ovDel.1 hx).1
structure StIn (w : World) (b g mb pl : Nat) (ov : OV) (s : St.Sto) (F : Nat → Prop) : Prop where
  blk : w.heap[b]? = some (storeO (.map (some mb)) s.next s.hd g (.pointer (some ⟨pl, 0, none⟩)) ((2 + s.count : Nat) : Int) (s.each : Int))
  map : OMap w mb ov
  ovo : ovO ov = s.objs
  vals : OvIn w (fun k => F k ∧ k ≠ b ∧ k ≠ mb ∧ k ≠ pl) ov
  log : w.heap[pl]? = some (logO g s.log)
  f0 : F b
  f1 : F mb
  f2 : F pl
  d0 : b ≠ mb
  d1 : b ≠ pl
  d2 : mb ≠ pl
def StAt (w : World) (b g : Nat) (s : St.Sto) (F : Nat → Prop) : Prop := ∃ mb pl ov, StIn w b g mb pl ov s F
theorem StIn.turn {w w' : World} {b g mb pl : Nat} {ov : OV} {s : St.Sto} {F Q : Nat → Prop} (h : StIn w b g mb pl ov s F) (ht : Turn Q w w') (hF : ∀ k, F k → ¬ Q k) : StIn w' b g mb pl ov s F :=
  { h with
    blk := (ht.block _ (lt_of_block h.blk) (hF _ h.f0)).trans h.blk
    map := h.map.turn ht (hF _ h.f1)
    vals := h.vals.turn ht (fun k hk => hF k hk.1)
    log := (ht.block _ (lt_of_block h.log) (hF _ h.f2)).trans h.log }
theorem StAt.turn {w w' : World} {b g : Nat} {s : St.Sto} {F Q : Nat → Prop} (h : StAt w b g s F) (ht : Turn Q w w') (hF : ∀ k, F k → ¬ Q k) : StAt w' b g s F := by
  obtain ⟨mb, pl, ov, h⟩ := h
  exact ⟨mb, pl, ov, h.turn ht hF⟩
theorem StIn.mono {w : World} {b g mb pl : Nat} {ov : OV} {s : St.Sto} {F F' : Nat → Prop} (h : StIn w b g mb pl ov s F) (hF : ∀ k, k < w.heap.size → F k → F' k) : StIn w b g mb pl ov s F' :=
  { h with
    vals := h.vals.mono (fun k hl hk => ⟨hF k hl hk.1, hk.2⟩)
    f0 := hF _ (lt_of_block h.blk) h.f0
    f1 := hF _ h.map.lt h.f1
    f2 := hF _ (lt_of_block h.log) h.f2 }
theorem StIn.below {w w' : World} {b g mb pl : Nat} {ov : OV} {s : St.Sto} {F : Nat → Prop} (h : StIn w b g mb pl ov s F) (hb : Below w.heap.size w w') : StIn w' b g mb pl ov s F := h.turn (Q := fun _ => False) (Turn.of_below hb) (fun _ _ h => h)
theorem StAt.below {w w' : World} {b g : Nat} {s : St.Sto} {F : Nat → Prop} (h : StAt w b g s F) (hb : Below w.heap.size w w') : StAt w' b g s F := h.turn (Q := fun _ => False) (Turn.of_below hb) (fun _ _ h => h)
structure SdIn (w : World) (b g : Nat) (s : St.Sto) (D : St.Dk) (E F : Nat → Prop) : Prop where
  dk : DkAt w g D E E
  st : StAt w b g s F
  el : ∀ k, E k → k < w.heap.size
  fl : ∀ k, F k → k < w.heap.size
  ef : ∀ k, E k → ¬ F k
  half : Half w
  eh : ¬ E 0
  fh : ¬ F 0
def SdAt (w : World) (b g : Nat) (s : St.Sto) (D : St.Dk) (A : Nat → Prop) : Prop := ∃ E F, SdIn w b g s D E F ∧ (∀ k, E k → A k) ∧ ∀ k, F k → A k
theorem SdAt.turn {w w' : World} {b g : Nat} {s : St.Sto} {D : St.Dk} {A Q : Nat → Prop} (h : SdAt w b g s D A) (ht : Turn Q w w') (hA : ∀ k, A k → ¬ Q k) (hh : ¬ Q 0) : SdAt w' b g s D A := by
  obtain ⟨E, F, h, h1, h2⟩ := h
  exact ⟨E, F, ⟨h.dk.turn ht (fun k hk => hA k (h1 k hk)) (fun k hk => hA k (h1 k hk)), h.st.turn ht (fun k hk => hA k (h2 k hk)), fun k hk => Nat.lt_of_lt_of_le (h.el k hk) ht.size, fun k hk => Nat.lt_of_lt_of_le (h.fl k hk) ht.size, h.ef, h.half.turn ht hh, h.eh, h.fh⟩, h1, h2⟩
theorem SdAt.below {w w' : World} {b g : Nat} {s : St.Sto} {D : St.Dk} {A : Nat → Prop} (h : SdAt w b g s D A) (hb : Below w.heap.size w w') : SdAt w' b g s D A := h.turn (Q := fun _ => False) (Turn.of_below hb) (fun _ _ h => h) (fun h => h)
theorem SdAt.mono {w : World} {b g : Nat} {s : St.Sto} {D : St.Dk} {A A' : Nat → Prop} (h : SdAt w b g s D A) (hA : ∀ k, A k → A' k) : SdAt w b g s D A' := by
  obtain ⟨E, F, h, h1, h2⟩ := h
  exact ⟨E, F, h, fun k hk => hA k (h1 k hk), fun k hk => hA k (h2 k hk)⟩
end Go.Proofs.YtcpgbekcbaelpaaGreatDoor
/- Layer 7: where a store lies; heads. -/
namespace Go.Proofs.YtcpgbekcbaelpaaGreatDoor
open Go.RowKit Go.Maps Wr
set_option linter.unusedVariables false
set_option linter.unusedSimpArgs false
theorem wpList_zeros {w : World} {ops : Array Oper} {rest : List Oper} {o : Oper} {ac : Act} {Q : Exit → Act → World → Prop} (hgd : o.guard = none) (s x : Operand)
    (ho : o.op = .call { callee := .builtin .append, args := #[s, x], argTypes := #[44, 3] }) {N n : Nat} {v : Value} {b : List UInt8} (hs : ac.eval s = v) (hx : ac.eval x = .int .i64 (n : Int)) (hr : ByteRow w N v b) (hN : N ≤ w.heap.size) (h63 : b.length + n ≤ 1000000000)
    (h : ∀ v' w', ByteRow w' N v' (b ++ St.zeros n) → OwnStep w v w' v' → wpList Tryz.prog ops Q rest (ac.put o.dst v') w') : wpList Tryz.prog ops Q (o :: rest) ac w := by
  obtain ⟨v', w', hrun, h2, h3⟩ := run_zeros hr n hN h63 o.type
  exact Lib.wpList_append_run w hgd s x _ _ ho v _ hs hx v' w' hrun (h v' w' h2 h3)
def LayEnd (w : World) (g : Nat) (r : Option (Nat × Nat)) (e : Ending) (w' : World) : Prop :=
  Below w.heap.size w w' ∧ match r with
    | none => e = .returned (.pointer none)
    | some q => ∃ b, e = .returned (.pointer (some ⟨b, 0, none⟩)) ∧ w.heap.size ≤ b ∧ w'.heap[b]? = some (storeO (.map none) 0 St.noHd g (.pointer none) ((2 + q.1 : Nat) : Int) (q.2 : Int))
set_option maxRecDepth 100000 in
set_option maxHeartbeats 2000000 in
theorem lay_any {w : World} {g : Nat} {D : St.Dk} {M R : Nat → Prop} (h : DkAt w g D M R) (log : Int) (hw : -9223372036854775808 ≤ log ∧ log ≤ 9223372036854775807) :
    Calls Tryz.prog 49 #[.pointer (some ⟨g, 0, none⟩), .int .i64 log] w (LayEnd w g (St.layT D.last.length log)) := by
  have hl := h.len
  obtain ⟨n, hn⟩ : ∃ n, D.last.length = n := ⟨_, rfl⟩
  have HC : Hid (∀ W, Below w.heap.size w W → Calls Tryz.prog 99 #[.pointer (some ⟨g, 0, none⟩)] W fun e w' => e = .returned (.int .i64 (n : Int)) ∧ W = w') := fun W hW => by
    rw [← hn]
    exact dkCount_any (h.below hW)
  have HCD : Hid (∀ m, Calls Tryz.prog 99 #[.pointer (some ⟨g, 0, none⟩)] (w.drewN m) fun e w' => e = .returned (.int .i64 (n : Int)) ∧ w.drewN m = w') := fun m => HC.out _ (below_drewN (Below.refl _ _) m)
  rw [hn] at hl ⊢
  by_cases h1 : log < 3
  · have hr : St.layT n log = none := by unfold St.layT; rw [if_pos (Or.inl h1)]
    rw [hr]
    have q1 : decide (log < 3) = true := by simpa using h1
    clear h hn hl hr
    go_enter Tryz.func49, Tryz.ntmps49
    go_wp2
    go_ret
    exact ⟨Below.refl _ _, rfl⟩
  · have q1 : decide (log < 3) = false := by simpa using h1
    by_cases h2 : (n : Int) < log
    · have hr : St.layT n log = none := by unfold St.layT; rw [if_pos (Or.inr h2)]
      rw [hr]
      have q2 : decide ((n : Int) < log) = true := by simpa using h2
      have q3 : decide (log > (n : Int)) = true := by simpa using h2
      clear h hn hl hr
      go_enter Tryz.func49, Tryz.ntmps49
      go_wp2_with (go_at_call 99; refine (HC.out w (Below.refl _ _)).mono ?_; rintro e w1 ⟨rfl, rfl⟩)
      go_ret
      exact ⟨Below.refl _ _, rfl⟩
    · have q2 : decide ((n : Int) < log) = false := by simpa using h2
      have q3 : decide (log > (n : Int)) = false := by simpa using h2
      have w1 : IntKind.i64.wrap (2 + log) = 2 + log := by rw [IntKind.wrap_i64]; omega
      have w2 : IntKind.i64.wrap ((n : Int) - 2) = (n : Int) - 2 := by rw [IntKind.wrap_i64]; omega
      have w3 : IntKind.i64.wrap ((n : Int) - 2 - log) = (n : Int) - 2 - log := by rw [IntKind.wrap_i64]; omega
      obtain ⟨ea, hea⟩ : ∃ ea, ((n : Int) - 2 - log).tdiv 2 = ea := ⟨_, rfl⟩
      have hb0 : -1 ≤ ea ∧ ea ≤ 65536 := by
        have hx : (n : Int) - 2 - log = -2 ∨ (n : Int) - 2 - log = -1 ∨ 0 ≤ (n : Int) - 2 - log := by omega
        rw [← hea]
        rcases hx with hx | hx | hx
        · rw [hx]; decide
        · rw [hx]; decide
        · rw [Int.tdiv_eq_ediv_of_nonneg hx]; omega
      have w4 : wrap64 ea = ea := wrap_id ea (by omega) (by omega)
      by_cases h3 : ea < 1
      · have hr : St.layT n log = none := by unfold St.layT; rw [if_neg (by omega), hea, if_pos h3]
        rw [hr]
        have q4 : decide (ea < 1) = true := by simpa using h3
        clear h hn hl hr
        go_enter Tryz.func49, Tryz.ntmps49
        go_wp2_with (go_at_call 99; refine (HC.out w (Below.refl _ _)).mono ?_; rintro e w1 ⟨rfl, rfl⟩)
        go_ret
        exact ⟨(Below.refl _ _).alloc (Nat.le_refl _) _, rfl⟩
      · have hr : St.layT n log = some (log.toNat, ea.toNat) := by unfold St.layT; rw [if_neg (by omega), hea, if_neg h3]
        rw [hr]
        have q4 : decide (ea < 1) = false := by simpa using h3
        have HE1 : Hid (2 + log = ((2 + log.toNat : Nat) : Int)) := by show _ = _; omega
        have HE2 : Hid (ea = (ea.toNat : Int)) := by show _ = _; omega
        clear h hn hl hr
        go_enter Tryz.func49, Tryz.ntmps49
        go_wp2_with (go_at_call 99; refine (HC.out w (Below.refl _ _)).mono ?_; rintro e w1 ⟨rfl, rfl⟩)
        go_ret
        refine ⟨(Below.refl _ _).alloc (Nat.le_refl _) _, _, rfl, Nat.le_refl _, ?_⟩
        have := heap_alloc_new w (storeO (.map none) 0 St.noHd g (.pointer none) (2 + log) ea)
        rw [← HE1.out, ← HE2.out]
        exact this
set_option maxRecDepth 100000 in
set_option maxHeartbeats 1000000 in
theorem full_any {w : World} {v : Value} {b : List UInt8} (hb : BytesIn w v b) (hl : b.length ≤ 1000000) : Calls Tryz.prog 125 #[v] w (RowEnd w w.heap.size (St.full b)) := by
  have HC := Lib.hid (clone_any v b w hb hl)
  have HL := Lib.hid hl
  obtain ⟨ao, cap, rfl, _⟩ := hb
  obtain ⟨m, hm⟩ : ∃ m : Nat, m = (512 - b.length % 512) % 512 := ⟨_, rfl⟩
  have HQ : Hid ((512 - (b.length : Int) % 512) % 512 = (m : Int)) := by show _ = _; omega
  have HM := Lib.hid hm
  clear hl hm
  go_enter Tryz.func125, Tryz.ntmps125
  go_wp2_with (first
    | (go_at_call 124; refine HC.out.mono ?_; rintro e w1 ⟨v1, rfl, hr1, hb1⟩; obtain ⟨a1, c1, rfl, _⟩ := hr1.form; have HR1 := Lib.hid hr1; have HB1 := Lib.hid hb1; clear hr1 hb1)
    | (at_builtin; go_loud (refine wpList_zeros (w := w1) rfl _ _ rfl (v := .slice a1 b.length c1) (n := m) rfl (congrArg (Value.int .i64) HQ.out) HR1.out HB1.out.size (by have := HL.out; have := HM.out; omega) ?_; intro v2 w2 hr2 ho2; have HR2 := Lib.hid hr2; have HO2 := Lib.hid ho2; clear hr2 ho2)))
  go_ret
  refine ⟨_, rfl, ?_, HB1.out.trans (HO2.out.below HB1.out.size HR1.out.2)⟩
  have := HR2.out
  rw [HM.out] at this
  exact this
abbrev hdV (h : St.Hd2) : Value := .agg #[.int .i64 h.turn, .int .i64 h.half, .int .i64 h.size, .int .i64 h.sum, .int .i64 h.age]
abbrev hdO (h : St.Hd2) : Obj := .cells #[.int .i64 h.turn, .int .i64 h.half, .int .i64 h.size, .int .i64 h.sum, .int .i64 h.age] 104 (0, 0)
structure HdOk (h : St.Hd2) : Prop where
  t : 0 ≤ h.turn ∧ h.turn ≤ 4611686018427387904
  f : 0 ≤ h.half ∧ h.half ≤ 4611686018427387904
  z : 0 ≤ h.size ∧ h.size ≤ 4611686018427387904
  s : 0 ≤ h.sum ∧ h.sum ≤ 4611686018427387904
  a : 0 ≤ h.age ∧ h.age ≤ 4611686018427387904
def hdN (h : St.Hd2) : Nat → Int
  | 0 => h.turn
  | 1 => h.half
  | 2 => h.size
  | 3 => h.sum
  | _ => h.age
def hdB (h : St.Hd2) : Nat → List UInt8
  | 0 => [83, 84]
  | i + 1 => hdB h i ++ num (hdN h i)
theorem hdN_ok {h : St.Hd2} (hk : HdOk h) (i : Nat) : 0 ≤ hdN h i ∧ hdN h i ≤ 4611686018427387904 := by
  match i with
  | 0 => exact hk.t
  | 1 => exact hk.f
  | 2 => exact hk.z
  | 3 => exact hk.s
  | _ + 4 => exact hk.a
theorem hdB_len {h : St.Hd2} (hk : HdOk h) : ∀ i, (hdB h i).length ≤ 2 + 10 * i
  | 0 => by simp [hdB]
  | i + 1 => by
    have h1 := hdN_ok hk i
    have := num_len (n := hdN h i) (by omega) (by omega)
    have ih := hdB_len hk i
    rw [hdB, List.length_append]
    omega
theorem hdB_bytes (h : St.Hd2) : St.close (hdB h 5) = h.bytes := rfl
theorem st_lit (w : World) : BFull (w.alloc (.cells #[.int .u8 83, .int .u8 84] 5 (2, 3))) (.slice (some ⟨w.heap.size, 0, none⟩) 2 2) [83, 84] := by
  refine ⟨⟨_, 2, rfl, Nat.le_refl _, by unfold maxLen; omega, (fun h => by cases h), fun j hj => ⟨_, 0, rfl, by simp, ?_⟩⟩, ⟨_, rfl⟩⟩
  unfold World.cell?
  rw [heap_alloc_new]
  match j, hj with
  | 0, _ => rfl
  | 1, _ => rfl
theorem st_conv (W : World) : (convert 44 44 (.slice (some ⟨W.heap.size, 0, none⟩) 2 2)).run Tryz.prog (W.alloc (.cells #[.int .u8 83, .int .u8 84] 5)) = .ok (.slice (some ⟨W.heap.size, 0, none⟩) 2 2) (W.alloc (.cells #[.int .u8 83, .int .u8 84] 5 (2, 3))) :=
  Lib.run_convert_bytes_const W 44 5 #[.int .u8 83, .int .u8 84] 2 2 Tryz.underlying44 Tryz.underlying5
def HbI (w : World) (h : St.Hd2) (k : Nat) (s3 s19 : Value) (X : World) : Prop :=
  ∃ i : Nat, s19 = .int .i64 (i : Int) ∧ i + k = 5 ∧ Below w.heap.size w X ∧ ((i = 0 ∧ BFull X s3 [83, 84]) ∨ (0 < i ∧ ByteRow X w.heap.size s3 (hdB h i)))
set_option maxRecDepth 100000 in
set_option maxHeartbeats 4000000 in
theorem headBytes_any {h : St.Hd2} (hk : HdOk h) (w : World) (hT : Half w) : Calls Tryz.prog 126 #[hdV h] w (RowEnd w w.heap.size h.bytes) := by
  have hcv := st_conv
  have HN : Hid (∀ i W, Calls Tryz.prog 90 #[.int .i64 (hdN h i)] W (RowEnd W W.heap.size (num (hdN h i)))) := fun i W => wireNum_any _ W (by have := hdN_ok hk i; omega) (by have := hdN_ok hk i; omega)
  have HK := Lib.hid hk
  have HT := Lib.hid hT
  have HNE : Hid (∀ i, num (hdN h i) ≠ []) := fun i => num_ne _
  have HNL : Hid (∀ i, (num (hdN h i)).length ≤ 10) := fun i => num_len (by have := hdN_ok hk i; omega) (by have := hdN_ok hk i; omega)
  clear hT
  go_enter Tryz.func126, Tryz.ntmps126
  have hcv1 : (convert 44 44 (.slice (some ⟨w.heap.size + 1, 0, none⟩) 2 2)).run Tryz.prog ((w.alloc (hdO h)).alloc (.cells #[.int .u8 83, .int .u8 84] 5)) = .ok (.slice (some ⟨w.heap.size + 1, 0, none⟩) 2 2) ((w.alloc (hdO h)).alloc (.cells #[.int .u8 83, .int .u8 84] 5 (2, 3))) := by
    have := st_conv (w.alloc (hdO h))
    simpa using this
  clear hcv
  go_wp2
  have HB0 : Hid (Below w.heap.size w ((w.alloc (hdO h)).alloc (.cells #[.int .u8 83, .int .u8 84] 5 (2, 3)))) := ((Below.refl _ w).alloc (Nat.le_refl _) _).alloc (by simp) _
  have HI0 : Hid (HbI w h 5 (.slice (some ⟨w.heap.size + 1, 0, none⟩) 2 2) (.int .i64 0) ((w.alloc (hdO h)).alloc (.cells #[.int .u8 83, .int .u8 84] 5 (2, 3)))) := ⟨0, rfl, rfl, HB0.out, .inl ⟨rfl, by have := st_lit (w.alloc (hdO h)); simpa using this⟩⟩
  generalize (w.alloc (hdO h)).alloc (.cells #[.int .u8 83, .int .u8 84] 5 (2, 3)) = W1 at *
  go_loopg [3, 19] 5 (fun gk s3 s19 wr => HbI w h gk s3 s19 wr)
  case atStart => exact HI0.out
  case round =>
    clear HI0 hcv1
    obtain ⟨i, rfl, hik, hb, hrow⟩ := hrel
    have HIK := Lib.hid hik
    have HBR := Lib.hid hb
    by_cases hlt : i < 5
    · have g1 : (i : Int) < 5 := by omega
      have hix : ∀ W, (Instr.index 224 (hdV h) (.int .i64 (i : Int))).run Tryz.prog W = .ok (.int .i64 (hdN h i)) W := fun W => by
        have : i = 0 ∨ i = 1 ∨ i = 2 ∨ i = 3 ∨ i = 4 := by omega
        rcases this with rfl | rfl | rfl | rfl | rfl <;> (show (Instr.index 224 (hdV h) (.int .i64 _)).run Tryz.prog W = _; simp [Instr.index, hdN, hdV, go_sem])
      have hwi : IntKind.i64.wrap ((i : Int) + 1) = (i : Int) + 1 := by rw [IntKind.wrap_i64]; omega
      by_cases h0 : i = 0
      · subst h0
        have hf : BFull wr u3 [83, 84] := by rcases hrow with ⟨_, h⟩ | ⟨h, _⟩; exact h; omega
        have hix0 : ∀ W, (Instr.index 224 (hdV h) (.int .i64 0)).run Tryz.prog W = .ok (.int .i64 (hdN h 0)) W := fun W => hix W
        clear hix
        obtain ⟨ao, rfl⟩ := hf.2
        have HF := Lib.hid hf
        clear hf hrow hb hik
        go_wp2_with (first
          | (go_at_call 90; refine (HN.out 0 _).mono ?_; rintro e w1 ⟨v1, rfl, hr1, hb1⟩; obtain ⟨a1, c1, rfl, _⟩ := hr1.form; have HR1 := Lib.hid hr1; have HB1 := Lib.hid hb1; clear hr1 hb1)
          | (at_builtin; refine wpList_appx (w := w1) rfl _ _ rfl rfl rfl (a := [83, 84]) (b := num (hdN h 0)) ⟨BytesIn.below HF.out.1 HB1.out, ⟨_, rfl⟩⟩ (BytesIn.row HR1.out) (HNE.out 0) (by have := HNL.out 0; simp; omega) ?_; intro v2 w2 hr2 hb2; obtain ⟨a2, c2, rfl, _⟩ := hr2.form; have HR2 := Lib.hid hr2; have HB2 : Hid (Below w.heap.size w w2) := (HBR.out.trans (HB1.out.mono HBR.out.size)).trans (hb2.mono (Nat.le_trans HBR.out.size HB1.out.size)); clear hr2 hb2))
        go_roundg (gk - 1)
        case measure => have := HIK.out; omega
        case rel => exact ⟨1, by go_num, by have := HIK.out; omega, HB2.out, .inr ⟨by omega, ⟨HR2.out.1, fun k hk => Nat.le_trans (Nat.le_trans HBR.out.size HB1.out.size) (HR2.out.2 k hk)⟩⟩⟩
      · have hf : ByteRow wr w.heap.size u3 (hdB h i) := by rcases hrow with ⟨h, _⟩ | ⟨_, h⟩; exact absurd h h0; exact h
        obtain ⟨ao, cap, rfl, _⟩ := hf.form
        have HF := Lib.hid hf
        have HHL : Hid ((hdB h i).length ≤ 2 + 10 * i) := hdB_len HK.out i
        obtain ⟨bi, hbi⟩ : ∃ bi, hdB h i = bi := ⟨_, rfl⟩
        have HBI := Lib.hid hbi
        rw [hbi] at HF HHL ⊢
        clear hf hrow hb hik hbi
        go_wp2_with (first
          | (go_at_call 90; refine (HN.out i _).mono ?_; rintro e w1 ⟨v1, rfl, hr1, hb1⟩; obtain ⟨a1, c1, rfl, _⟩ := hr1.form; have HR1 := Lib.hid hr1; have HB1 := Lib.hid hb1; clear hr1 hb1)
          | (at_builtin; refine wpList_appv (w := w1) (v := .slice ao bi.length cap) rfl _ _ rfl rfl (HF.out.below HB1.out) rfl (l := num (hdN h i)) (BytesIn.row HR1.out) (HNE.out i) (Nat.le_trans HBR.out.size HB1.out.size) (by have := HNL.out i; have := HHL.out; omega) ?_; intro v2 w2 hr2 ho2; obtain ⟨bb, hbb⟩ : ∃ bb, bi ++ num (hdN h i) = bb := ⟨_, rfl⟩; rw [hbb] at hr2; have HBB := Lib.hid hbb; clear hbb; obtain ⟨a2, c2, rfl, _⟩ := hr2.form; have HR2 := Lib.hid hr2; have HB2 : Hid (Below w.heap.size w w2) := (HBR.out.trans (HB1.out.mono HBR.out.size)).trans (ho2.below (Nat.le_trans HBR.out.size HB1.out.size) HF.out.2); clear hr2 ho2))
        go_roundg (gk - 1)
        case measure => have := HIK.out; omega
        case rel => exact ⟨i + 1, by go_num, by have := HIK.out; omega, HB2.out, .inr ⟨by omega, by rw [hdB, HBI.out, HBB.out]; exact HR2.out⟩⟩
    · obtain rfl : i = 5 := by omega
      have hf : ByteRow wr w.heap.size u3 (hdB h 5) := by rcases hrow with ⟨h, _⟩ | ⟨_, h⟩; omega; exact h
      have g1 : ¬ (((5 : Nat) : Int) < 5) := by omega
      obtain ⟨ao, cap, rfl, _⟩ := hf.form
      have HF := Lib.hid hf
      have HHL := hdB_len HK.out 5
      have HCC := Lib.hid (crcClose_any (hdB h 5) wr _ _ (HT.out.below hb) hf (fun h => by have := congrArg List.length h; simp [hdB] at this) (by omega))
      rw [hdB_bytes] at HCC
      clear hf hrow hb hik HHL hlt
      go_wp2_with (go_at_call 145; refine HCC.out.mono ?_; rintro e w3 ⟨v3, rfl, hr3, hb3⟩; have HR3 := Lib.hid hr3; have HB3 := Lib.hid hb3; clear hr3 hb3)
      go_ret
      exact ⟨_, rfl, ⟨HR3.out.1, fun k hk => Nat.le_trans HBR.out.size (HR3.out.2 k hk)⟩, HBR.out.trans (HB3.out.mono HBR.out.size)⟩
end Go.Proofs.YtcpgbekcbaelpaaGreatDoor
/- Layer 7: the image of all objects. -/
namespace Go.Proofs.YtcpgbekcbaelpaaGreatDoor
open Go.RowKit Go.Maps Wr
set_option linter.unusedVariables false
set_option linter.unusedSimpArgs false
theorem run_bytes_str {w : World} {v : Value} {b : List UInt8} (h : BytesIn w v b) : (convert 44 9 v).run Tryz.prog w = .ok (.string (bytes b)) w := by
  obtain ⟨ao, cap, rfl, h1, h2, h3, h4⟩ := h
  cases ao with
  | none =>
    have hc := h3 rfl
    have hb : b = [] := List.length_eq_zero_iff.1 (by omega)
    subst hb
    exact run_convert_bytes_nil w 44 5 Tryz.underlying44 Tryz.underlying5 0 cap 9 Tryz.underlying9
  | some ad =>
    exact run_convert_bytes_back (P := Tryz.prog) w 44 9 5 ad cap b Tryz.underlying44 Tryz.underlying5 Tryz.underlying9 (fun j hj => by
      obtain ⟨g, o, e1, _, e4⟩ := h4 j hj
      cases e1
      rw [show (Addr.add ⟨g, o, none⟩ j) = ⟨g, o + j, none⟩ by unfold Addr.add; split <;> simp_all]
      exact e4)
theorem step_appv {w : World} {ops : Array Oper} {o : Oper} {a : Act} {K : Act → World → Prop} {Q : Exit → Act → World → Prop} {E : Prop} (hgd : o.guard = none) (s x : Operand)
    (ho : o.op = .call { callee := .builtin .append, args := #[s, x], argTypes := #[44, 44] }) {N : Nat} {v vx : Value} {b l : List UInt8} (hs : a.eval s = v) (hr : ByteRow w N v b) (hx : a.eval x = vx) (hrx : BytesIn w vx l) (hne : l ≠ []) (hN : N ≤ w.heap.size)
    (h63 : b.length + l.length ≤ 1000000000)
    (h : ∀ v' w', ByteRow w' N v' (b ++ l) → OwnStep w v w' v' → K (a.put o.dst v') w') : if Region.wanted o (yielded ops a.tmps) = true then Oper.wp Tryz.prog o a w K Q else E := by
  obtain ⟨i0, hi, hz0, hz1, hz2⟩ := info_parts infoB
  obtain ⟨ao, cap, hvx, h2, h3, h4, h5⟩ := hrx
  have hl0 : 0 < l.length := List.length_pos_iff.2 hne
  obtain ⟨g, of', rfl, _⟩ := h5 0 hl0
  refine step_append_lies w hgd s x 44 ho N 5 i0 (.int .u8 0) 1 1 Tryz.underlying44 hi hz0 hz1 hz2 rfl (by decide) v b.length (bvals b) hs hr.owns ⟨g, of', none⟩ l.length cap (bvals l) (by rw [hx, hvx]) (by rw [bvals_length, Nat.mul_one]) (fun j u hj => ?_) (bvals_one l) hl0 (by unfold maxLen; omega) (by omega) hN w.heap.size rfl ?_
  · have hj2 := (List.getElem?_eq_some_iff.1 hj).1
    rw [bvals_length] at hj2
    obtain ⟨g', o', e1, _, e2⟩ := h5 j hj2
    cases e1
    rw [show (Addr.add ⟨g, of', none⟩ j) = ⟨g, of' + j, none⟩ by unfold Addr.add; split <;> simp_all]
    rw [e2, ← hj]
    simp [bvals, hj2]
  · intro g9 cap9 w' hown hgr hloc _
    rw [← bvals_append] at hown
    refine h _ w' (ByteRow.of hown (by rw [List.length_append])) ⟨(Chg.refl _ w).grown hgr (fun k hk => .inl (by simp [hk])), ?_⟩
    rcases hloc with e | e
    · exact .inl e.symm
    · exact .inr ⟨_, rfl, by rw [e]; exact Nat.le_refl _⟩
theorem objsBytes_snoc (x : Int × List UInt8) : ∀ l : St.Objs, St.objsBytes (l ++ [x]) = St.objsBytes l ++ num x.1 ++ str x.2
  | [] => by simp [St.objsBytes]
  | y :: l => by
    rw [List.cons_append, St.objsBytes, St.objsBytes, objsBytes_snoc x l]
    simp
def imgT (ov : OV) (next : Int) (i : Nat) : List UInt8 := num next ++ num (ov.length : Int) ++ St.objsBytes (ovO (ov.take i))
theorem imgT_all (ov : OV) (next : Int) : imgT ov next ov.length = St.image (ovO ov) next := by
  unfold imgT St.image
  rw [List.take_length, ovO_len]
theorem imgT_next {ov : OV} (next : Int) {i : Nat} {x : Int × Value × List UInt8} (h : ov[i]? = some x) : imgT ov next (i + 1) = imgT ov next i ++ num x.1 ++ str x.2.2 := by
  unfold imgT
  have : ovO (ov.take (i + 1)) = ovO (ov.take i) ++ [(x.1, x.2.2)] := by
    unfold ovO
    rw [List.take_add_one, h]
    simp
  rw [this, objsBytes_snoc]
  simp
theorem objsBytes_pre : ∀ (l m : St.Objs), (St.objsBytes l).length ≤ (St.objsBytes (l ++ m)).length
  | [], m => by simp [St.objsBytes]
  | x :: l, m => by
    rw [List.cons_append, St.objsBytes, St.objsBytes, List.length_append, List.length_append (bs := St.objsBytes (l ++ m))]
    have := objsBytes_pre l m
    omega
theorem imgT_le (ov : OV) (next : Int) (i : Nat) : (imgT ov next i).length ≤ (St.image (ovO ov) next).length := by
  rw [← imgT_all]
  unfold imgT
  rw [List.length_append, List.length_append (bs := St.objsBytes (ovO (ov.take ov.length))), List.take_length]
  have h := objsBytes_pre (ovO (ov.take i)) (ovO (ov.drop i))
  have e : ovO (ov.take i) ++ ovO (ov.drop i) = ovO ov := by unfold ovO; rw [← List.map_append, List.take_append_drop]
  rw [e] at h
  omega
def ImgI (W : World) (N Nc : Nat) (ov : OV) (next : Int) (k : Nat) (s3 s19 : Value) (X : World) : Prop :=
  ∃ i : Nat, s19 = .int .i64 (i : Int) ∧ i + k = ov.length ∧ ByteRow X N s3 (imgT ov next i) ∧ Below N W X ∧ ∀ j, Nc < j → j < W.heap.size → s3.ownBlock ≠ some j ∧ X.heap[j]? = W.heap[j]?
abbrev objO (mb : Nat) (next : Int) : Obj := .cells #[.map (some mb), .int .i64 next] 100
theorem box2c {w W : World} {N : Nat} {a b : Value} {T : TypeId} (hN : w.heap.size < N) (h : Below N (w.alloc (.cells #[a, b] T)) W) : W.cell? ⟨w.heap.size, 0, none⟩ = some a ∧ W.cell? ⟨w.heap.size, 1, none⟩ = some b := by
  have h0 := (h.block w.heap.size hN).trans (heap_alloc_new w (.cells #[a, b] T))
  exact ⟨by simp [World.cell?, h0], by simp [World.cell?, h0]⟩
set_option maxRecDepth 100000 in
set_option maxHeartbeats 8000000 in
theorem image_any {w : World} {mb : Nat} {next : Int} {ov : OV} {A : Nat → Prop} (hm : OMap w mb ov) (hv : OvIn w A ov) (hn : 0 ≤ next ∧ next ≤ 4611686018427387904) (hk : ∀ x ∈ ov, 0 ≤ x.1 ∧ x.1 ≤ 4611686018427387904) (hl : (St.image (ovO ov) next).length ≤ 500000000) :
    Calls Tryz.prog 45 #[.agg #[.map (some mb), .int .i64 next]] w (RowEnd w w.heap.size (St.image (ovO ov) next)) := by
  have hcnt := St.image_cnt (ovO ov) next
  rw [ovO_len] at hcnt
  have hol : (ov.length : Int) ≤ 500000000 := by omega
  have HN1 : Hid (∀ W, Calls Tryz.prog 90 #[.int .i64 next] W (RowEnd W W.heap.size (num next))) := fun W => wireNum_any next W (by omega) (by omega)
  have HN2 : Hid (∀ W, Calls Tryz.prog 90 #[.int .i64 (ov.length : Int)] W (RowEnd W W.heap.size (num (ov.length : Int)))) := fun W => wireNum_any _ W (by omega) (by omega)
  have HM := Lib.hid hm
  have HV := Lib.hid hv
  have HK := Lib.hid hk
  have HL := Lib.hid hl
  have HOL := Lib.hid hol
  have HNL1 : Hid ((num next).length ≤ 10) := num_len (by omega) (by omega)
  have HNL2 : Hid ((num (ov.length : Int)).length ≤ 10) := num_len (by omega) (by omega)
  have HMB := Lib.hid hm.lt
  have hlen : ∀ X : World, Below w.heap.size w X → (Builtin.len_ #[98] 3 #[.map (some mb)]).run Tryz.prog X = .ok (.int .i64 (ov.length : Int)) X := fun X hX => (hm.below hX).len _
  have HLEN := Lib.hid hlen
  have B0 : Hid (Below (w.heap.size + 1) (w.alloc (objO mb next)) (w.alloc (objO mb next)).drew) := (Below.refl _ _).drew
  have BW : Hid (∀ X, Below (w.heap.size + 1) (w.alloc (objO mb next)) X → Below w.heap.size w X) := fun X hX => ((Below.refl _ w).alloc (Nat.le_refl _) _).trans (hX.mono (by omega))
  clear hm hv hn hk hl hcnt hlen
  go_enter Tryz.func45, Tryz.ntmps45
  obtain ⟨c0, c1⟩ := box2c (by omega) B0.out
  have l0 := HLEN.out _ (BW.out _ B0.out)
  go_upto_region 1 with fail
  go_cut [3] (fun s3 wx => ByteRow wx (w.heap.size + 1) s3 (imgT ov next 0) ∧ Below (w.heap.size + 1) (w.alloc (objO mb next)) wx)
  case first =>
    go_region_law (first
      | (refine step_callw (by rfl) 90 #[.int .i64 next] ?_ (HN1.out _) ?_; go_simp; rintro e w1 ⟨v1, rfl, hr1, hb1⟩; obtain ⟨a1, p1, rfl, _⟩ := hr1.form; refine ⟨.slice a1 (num next).length p1, rfl, ?_⟩; have B1 : Hid (Below (w.heap.size + 1) (w.alloc (objO mb next)) w1) := B0.out.trans (hb1.mono (by simp)); have HR1 := Lib.hid hr1; clear hr1 hb1; obtain ⟨d0, d1⟩ := box2c (by omega) B1.out; have l1 := HLEN.out _ (BW.out _ B1.out))
      | (refine step_callw (by rfl) 90 #[.int .i64 (ov.length : Int)] ?_ (HN2.out _) ?_; go_simp; rintro e w2 ⟨v2, rfl, hr2, hb2⟩; obtain ⟨a2, p2, rfl, _⟩ := hr2.form; refine ⟨.slice a2 (num (ov.length : Int)).length p2, rfl, ?_⟩; have B2 : Hid (Below (w.heap.size + 1) (w.alloc (objO mb next)) w2) := B1.out.trans (hb2.mono (by have := B1.out.size; simp at this; omega)); have HR2 := Lib.hid hr2; have HR1' := Lib.hid (HR1.out.below hb2); clear hr2 hb2)
      | (refine step_appv (w := w2) (by rfl) _ _ rfl (v := .slice a1 (num next).length p1) rfl HR1'.out rfl (BytesIn.row HR2.out) (num_ne _) (by have := B1.out.size; have := B2.out.size; simp at *; omega) (by have := HNL1.out; have := HNL2.out; omega) ?_; intro v3 w3 hr3 ho3; obtain ⟨b3, hb3e⟩ : ∃ b3, num next ++ num (ov.length : Int) = b3 := ⟨_, rfl⟩; rw [hb3e] at hr3; have HBE := Lib.hid hb3e; clear hb3e; obtain ⟨a3, p3, rfl, _⟩ := hr3.form; have HR3 := Lib.hid hr3; have HO3 := Lib.hid ho3; clear hr3 ho3))
    all_goals
      have B3 : Hid (Below (w.heap.size + 1) (w.alloc (objO mb next)) w3) := B2.out.trans (HO3.out.below (by have := B2.out.size; simp at this; omega) (fun k hk => by have h1 := HR1'.out.2 k hk; simp at h1; omega))
      have hrr : ByteRow w3 (w.heap.size + 1) (.slice a3 b3.length p3) (imgT ov next 0) := by
        have h3 := HR3.out
        have e : imgT ov next 0 = num next ++ num (ov.length : Int) := by unfold imgT; simp [ovO, St.objsBytes]
        rw [e, HBE.out]
        exact ⟨h3.1, fun k hk => by have := h3.2 k hk; simp at this; omega⟩
      go_wp2
      go_meet
      exact ⟨hrr, B3.out⟩
  obtain ⟨hrow3, hb3⟩ := hcut
  -- BEHIND REGION 1
  obtain ⟨a3, p3, rfl, _⟩ := hrow3.form
  have HR3 := Lib.hid hrow3
  have HB3 := Lib.hid hb3
  have hz3 : w.heap.size + 1 ≤ wc.heap.size := by have := hb3.size; simpa using this
  have HZ3 := Lib.hid hz3
  obtain ⟨e0, e1⟩ := box2c (by omega) hb3
  have HK3 := Lib.hid (keys_any mb wc)
  have HS3 := Lib.hid (sorted_any (HM.out.below (BW.out _ hb3)) (by have := HOL.out; omega))
  clear hrow3 hb3 hz3 c0 c1 l0
  go_wp2_with (first
    | (go_at_call 56; refine HK3.out.mono ?_; rintro e w4 ⟨rfl, rfl⟩)
    | (go_at_call 55; refine HS3.out.mono ?_; rintro e w5 ⟨v5, rfl, hr5, hn5, hb5⟩; obtain ⟨a5, c5, hv5, _, _, _, hsh5⟩ := hr5.form; rw [List.length_map] at hv5; subst hv5; have HR5 := Lib.hid hr5; have HN5 := Lib.hid hn5; have HB5 := Lib.hid hb5; have HSH5 := Lib.hid hsh5; clear hr5 hn5 hb5 hsh5))
  have HI0 : Hid (ImgI w5 (w.heap.size + 1) wc.heap.size ov next ov.length (.slice a3 (imgT ov next 0).length p3) (.int .i64 0) w5) := ⟨0, rfl, by omega, HR3.out.below HB5.out, Below.refl _ _, fun j h1 h2 => ⟨fun e => by have := HR3.out.1.lt e; omega, rfl⟩⟩
  have HB5W : Hid (Below (w.heap.size + 1) (w.alloc (objO mb next)) w5) := HB3.out.trans (HB5.out.mono HZ3.out)
  have HN5' : Hid (∀ k, (Value.slice a5 ov.length c5).ownBlock = some k → k < w5.heap.size ∧ wc.heap.size < k) := fun k hk => ⟨HR5.out.lt hk, HN5.out k hk⟩
  obtain ⟨i0, hi0⟩ : ∃ i0, imgT ov next 0 = i0 := ⟨_, rfl⟩
  rw [hi0] at HI0 ⊢
  clear HR3 HK3 HS3 e0 e1 HN1 HN2 hi0
  go_loopg [3, 19] ov.length (fun gk s3 s19 wr => ImgI w5 (w.heap.size + 1) wc.heap.size ov next gk s3 s19 wr)
  case atStart => exact HI0.out
  case round =>
    clear HI0
    obtain ⟨i, rfl, hik, hrow, hb, hkp⟩ := hrel
    obtain ⟨bi, hbi⟩ : ∃ bi, imgT ov next i = bi := ⟨_, rfl⟩
    have HBI := Lib.hid hbi
    rw [hbi] at hrow
    obtain ⟨ao, cap, rfl, _⟩ := hrow.form
    have HRW := Lib.hid hrow
    have HB := Lib.hid hb
    have HKP := Lib.hid hkp
    have HIK := Lib.hid hik
    have HWW : Hid (Below (w.heap.size + 1) (w.alloc (objO mb next)) wr) := HB5W.out.trans hb
    have hnz : w.heap.size + 1 ≤ wr.heap.size := by have := HWW.out.size; simpa using this
    have HNZ := Lib.hid hnz
    have HJZ : Hid (w5.heap.size ≤ wr.heap.size) := hb.size
    by_cases hlt : i < ov.length
    · have g1 : (i : Int) < (ov.length : Int) := by omega
      obtain ⟨⟨id, vx, bx⟩, hx⟩ : ∃ x, ov[i]? = some x := ⟨_, List.getElem?_eq_getElem hlt⟩
      have hmem := List.mem_of_getElem? hx
      obtain ⟨g5, rfl⟩ : ∃ g5, a5 = some ⟨g5, 0, none⟩ := by
        cases ha : a5 with
        | none =>
          rw [ha] at HR5
          obtain ⟨_, hr⟩ := HR5.out
          rcases hr with ⟨hv, hn⟩ | ⟨g, cap, cur, hv, _⟩
          · rw [List.length_map] at hn; omega
          · cases hv
        | some a => obtain ⟨g, hg, _⟩ := HSH5.out a ha; exact ⟨g, by rw [hg]⟩
      have hg5 := HN5'.out g5 rfl
      have k0 : wr.cell? ⟨g5, i, none⟩ = some (.int .i64 id) := by
        have h1 := HR5.out.cellAt i (by rw [List.length_map]; exact hlt)
        rw [List.getElem?_map, hx] at h1
        refine (World.cell?_of_block (w := w5) (a := ⟨g5, i, none⟩) (hkp g5 hg5.2 hg5.1).2).trans h1
      have HNI : Hid (∀ W, Calls Tryz.prog 90 #[.int .i64 id] W (RowEnd W W.heap.size (num id))) := fun W => wireNum_any id W (by have := HK.out _ hmem; omega) (by have := HK.out _ hmem; omega)
      have HNL : Hid ((num id).length ≤ 10) := num_len (by have := HK.out _ hmem; omega) (by have := HK.out _ hmem; omega)
      have hle1 := imgT_le ov next i
      have hle2 := imgT_le ov next (i + 1)
      have hnx := imgT_next next hx
      have HNX : Hid (imgT ov next (i + 1) = bi ++ num id ++ str bx) := by show _ = _; rw [hnx, hbi]
      have hbxl : (str bx).length ≤ 500000000 ∧ bi.length ≤ 500000000 ∧ bx.length ≤ 500000000 := by
        have h1 := HL.out
        have h2 := congrArg List.length hnx
        simp only [List.length_append] at h2
        rw [hbi] at hle1
        have h3 : (str bx).length = (num (bx.length : Int)).length + bx.length := by unfold str; rw [List.length_append]
        omega
      have HBL : Hid (bi.length ≤ 500000000) := hbxl.2.1
      have HTOT : Hid ((bi ++ num id ++ str bx).length ≤ 500000000) := by show _ ≤ _; rw [← HNX.out]; have := HL.out; omega
      have HSL : Hid ((str bx).length ≤ 500000000) := hbxl.1
      have HSTR : Hid (∀ W, Calls Tryz.prog 92 #[.string (bytes bx)] W (RowEnd W W.heap.size (str bx))) := fun W => by
        have := wireStr_any (bytes bx) W (by rw [bytes_size]; have := hbxl.2.2; omega)
        simpa [bytes] using this
      have HSNE : Hid (str bx ≠ []) := fun h => by unfold str at h; exact num_ne _ (List.append_eq_nil_iff.1 h).1
      have hgv : ovV ov id = some vx := ovV_mem HM.out.1 hmem
      have HSX : Hid (∀ X, Below (w.heap.size + 1) wr X → X.cell? ⟨w.heap.size, 0, none⟩ = some (.map (some mb)) ∧ (Instr.lookup 98 (.map (some mb)) (.int .i64 id) false).run Tryz.prog X = .ok vx X ∧ (convert 44 9 vx).run Tryz.prog X = .ok (.string (bytes bx)) X) := fun X hX => by
        have hw := BW.out X (HWW.out.trans hX)
        refine ⟨(box2c (by omega) (HWW.out.trans hX)).1, ?_, run_bytes_str (((HV.out _ hmem).below hw).bytesIn)⟩
        have := (HM.out.below hw).get (key := id) (WalkArith.wf_i64 (by have := HK.out _ hmem; omega))
        rw [hgv] at this
        exact this
      have HSS : Hid (∀ X, Below wr.heap.size wr X → X.cell? ⟨w.heap.size, 0, none⟩ = some (.map (some mb)) ∧ (Instr.lookup 98 (.map (some mb)) (.int .i64 id) false).run Tryz.prog X = .ok vx X ∧ (convert 44 9 vx).run Tryz.prog X = .ok (.string (bytes bx)) X) := fun X hX => HSX.out X (hX.mono HNZ.out)
      clear hrow hb hkp hik hx hmem hg5 hle1 hle2 hnx hbxl hgv hbi hnz
      go_upto_region 5 with fail
      refine wp_region_lastL (S := (fun X => X.cell? ⟨w.heap.size, 0, none⟩ = some (.map (some mb)) ∧ (Instr.lookup 98 (.map (some mb)) (.int .i64 id) false).run Tryz.prog X = .ok vx X ∧ (convert 44 9 vx).run Tryz.prog X = .ok (.string (bytes bx)) X)) (by kernel_rfl) (by simp only [butLast]; rfl) (by simp only [lastOf]; rfl) (by kernel_rfl) (by kernel_rfl) ?_ (fun hHeld => ?_)
      focus exact HSS.out _ (Below.refl _ _).drew
      try simp only [List.size_toArray, List.length_cons, List.length_nil]
      refine wpAnyH_take (i := 0) (v := ?_) rfl (by kernel_rfl) (by kernel_rfl) (by kernel_rfl) (fun _ _ _ h => h) (Or.inl ⟨by rfl, ?_⟩) (by assumption) ?_
      rotate_left
      focus (intro w hSw; (try dsimp only at hSw); go_simp; try with_reducible rfl)
      try simp only [Act.put, List.getElem_toArray, List.getElem_cons_zero, List.getElem_cons_succ, List.setIfInBounds_toArray, List.set_cons_zero, List.set_cons_succ, Nat.zero_add]
      refine wpAnyH_take (i := 1) (v := ?_) rfl (by kernel_rfl) (by kernel_rfl) (by kernel_rfl) (fun _ _ _ h => h) (Or.inl ⟨by rfl, ?_⟩) (by assumption) ?_
      rotate_left
      focus (intro w hSw; (try dsimp only at hSw); go_simp; try with_reducible rfl)
      try simp only [Act.put, List.getElem_toArray, List.getElem_cons_zero, List.getElem_cons_succ, List.setIfInBounds_toArray, List.set_cons_zero, List.set_cons_succ, Nat.zero_add]
      refine wpAnyH_take (i := 4) (v := ?_) rfl (by kernel_rfl) (by kernel_rfl) (by kernel_rfl) (fun _ _ _ h => h) (Or.inl ⟨by rfl, ?_⟩) (by assumption) ?_
      rotate_left
      focus (intro w hSw; (try dsimp only at hSw); go_simp; try with_reducible rfl)
      try simp only [Act.put, List.getElem_toArray, List.getElem_cons_zero, List.getElem_cons_succ, List.setIfInBounds_toArray, List.set_cons_zero, List.set_cons_succ, Nat.zero_add]
      refine wpAnyH_take (i := 5) (v := ?_) rfl (by kernel_rfl) (by kernel_rfl) (by kernel_rfl) (fun _ _ _ h => h) (Or.inl ⟨by rfl, ?_⟩) (by assumption) ?_
      rotate_left
      focus (intro w hSw; (try dsimp only at hSw); go_simp; try with_reducible rfl)
      try simp only [Act.put, List.getElem_toArray, List.getElem_cons_zero, List.getElem_cons_succ, List.setIfInBounds_toArray, List.set_cons_zero, List.set_cons_succ, Nat.zero_add]
      refine wpAnyH_take (i := 6) (v := ?_) rfl (by kernel_rfl) (by kernel_rfl) (by kernel_rfl) (fun _ _ _ h => h) (Or.inl ⟨by rfl, ?_⟩) (by assumption) ?_
      rotate_left
      focus (intro w hSw; (try dsimp only at hSw); go_simp; try with_reducible rfl)
      try simp only [Act.put, List.getElem_toArray, List.getElem_cons_zero, List.getElem_cons_succ, List.setIfInBounds_toArray, List.set_cons_zero, List.set_cons_succ, Nat.zero_add]
      refine wpAnyH_take (i := 7) (v := ?_) rfl (by kernel_rfl) (by kernel_rfl) (by kernel_rfl) (fun _ _ _ h => h) (Or.inl ⟨by rfl, ?_⟩) (by assumption) ?_
      rotate_left
      focus (intro w hSw; (try dsimp only at hSw); go_simp; try with_reducible rfl)
      try simp only [Act.put, List.getElem_toArray, List.getElem_cons_zero, List.getElem_cons_succ, List.setIfInBounds_toArray, List.set_cons_zero, List.set_cons_succ, Nat.zero_add]
      refine wpAnyH_take (i := 8) (v := ?_) rfl (by kernel_rfl) (by kernel_rfl) (by kernel_rfl) (fun _ _ _ h => h) (Or.inl ⟨by rfl, ?_⟩) (by assumption) ?_
      rotate_left
      focus (intro w hSw; (try dsimp only at hSw); go_simp; try with_reducible rfl)
      try simp only [Act.put, List.getElem_toArray, List.getElem_cons_zero, List.getElem_cons_succ, List.setIfInBounds_toArray, List.set_cons_zero, List.set_cons_succ, Nat.zero_add]
      refine wpAnyH_ready (rs := [2]) (by kernel_rfl) (by simp) ?_
      refine (AllReadyH.cons rfl (fun K' hK => ?_) AllReadyH.nil)
      refine step_callw (by rfl) 90 #[.int .i64 id] ?_ (HNI.out _) ?_
      go_simp
      rintro e w6 ⟨v6, rfl, hr6, hb6⟩
      obtain ⟨a6, p6, rfl, _⟩ := hr6.form
      refine ⟨.slice a6 (num id).length p6, rfl, ?_⟩
      have HB6 : Hid (Below wr.heap.size wr w6) := (Below.refl _ _).drew.trans hb6
      have HR6 := Lib.hid hr6
      clear hr6 hb6
      refine hK.out _ _ (HSS.out _ HB6.out) (fun hHeld => ?_)
      clear hK K'
      try simp only [Act.put, List.getElem_toArray, List.getElem_cons_zero, List.getElem_cons_succ, List.setIfInBounds_toArray, List.set_cons_zero, List.set_cons_succ, Nat.zero_add]
      refine wpAnyH_ready (rs := [3]) (by kernel_rfl) (by simp) ?_
      refine (AllReadyH.cons rfl (fun K' hK => ?_) AllReadyH.nil)
      refine step_appv (w := w6) (by rfl) _ _ rfl (v := .slice ao bi.length cap) rfl (HRW.out.below HB6.out) rfl (BytesIn.row HR6.out) (num_ne _) (Nat.le_trans HNZ.out HB6.out.size) (by have := HNL.out; have := HBL.out; omega) ?_
      intro v7 w7 hr7 ho7
      obtain ⟨b7, hb7⟩ : ∃ b7, bi ++ num id = b7 := ⟨_, rfl⟩
      rw [hb7] at hr7
      have HB7E := Lib.hid hb7
      obtain ⟨a7, p7, rfl, _⟩ := hr7.form
      have HB7 : Hid (Below (w.heap.size + 1) wr w7) := (HB6.out.mono HNZ.out).trans (ho7.below (Nat.le_trans HNZ.out HB6.out.size) HRW.out.2)
      have HO7 := Lib.hid ho7
      have HR7 := Lib.hid hr7
      clear hr7 hb7 ho7
      refine hK.out _ _ (HSX.out _ HB7.out) (fun hHeld => ?_)
      clear hK K'
      try simp only [Act.put, List.getElem_toArray, List.getElem_cons_zero, List.getElem_cons_succ, List.setIfInBounds_toArray, List.set_cons_zero, List.set_cons_succ, Nat.zero_add]
      refine wpAnyH_ready (rs := [9]) (by kernel_rfl) (by simp) ?_
      refine (AllReadyH.cons rfl (fun K' hK => ?_) AllReadyH.nil)
      refine step_callw (by rfl) 92 #[.string (bytes bx)] ?_ (HSTR.out _) ?_
      go_simp
      rintro e w8 ⟨v8, rfl, hr8, hb8⟩
      obtain ⟨a8, p8, rfl, _⟩ := hr8.form
      refine ⟨.slice a8 (str bx).length p8, rfl, ?_⟩
      have HB8 : Hid (Below w7.heap.size w7 w8) := hb8
      have HR8 := Lib.hid hr8
      clear hr8 hb8
      have HB8W : Hid (Below (w.heap.size + 1) wr w8) := HB7.out.trans (HB8.out.mono (Nat.le_trans HNZ.out HB7.out.size))
      refine hK.out _ _ (HSX.out _ HB8W.out) (fun hHeld => ?_)
      clear hK K'
      try simp only [Act.put, List.getElem_toArray, List.getElem_cons_zero, List.getElem_cons_succ, List.setIfInBounds_toArray, List.set_cons_zero, List.set_cons_succ, Nat.zero_add]
      refine wpAnyH_ready (rs := [10]) (by kernel_rfl) (by simp) ?_
      refine (AllReadyH.cons rfl (fun K' hK => ?_) AllReadyH.nil)
      refine step_appv (w := w8) (by rfl) _ _ rfl (v := .slice a7 b7.length p7) rfl (HR7.out.below HB8.out) rfl (BytesIn.row HR8.out) HSNE.out (Nat.le_trans (Nat.le_trans HNZ.out HB7.out.size) HB8.out.size) (by have h := HTOT.out; rw [HB7E.out, List.length_append] at h; omega) ?_
      intro v9 w9 hr9 ho9
      obtain ⟨b9, hb9⟩ : ∃ b9, b7 ++ str bx = b9 := ⟨_, rfl⟩
      rw [hb9] at hr9
      have HB9E := Lib.hid hb9
      obtain ⟨a9, p9, rfl, _⟩ := hr9.form
      have HB9 : Hid (Below (w.heap.size + 1) wr w9) := HB8W.out.trans (ho9.below (Nat.le_trans (Nat.le_trans HNZ.out HB7.out.size) HB8.out.size) HR7.out.2)
      have HR9 := Lib.hid hr9
      have HO9 := Lib.hid ho9
      clear hr9 hb9 ho9
      refine hK.out _ _ (HSX.out _ HB9.out) (fun hHeld => ?_)
      clear hK K'
      try simp only [Act.put, List.getElem_toArray, List.getElem_cons_zero, List.getElem_cons_succ, List.setIfInBounds_toArray, List.set_cons_zero, List.set_cons_succ, Nat.zero_add]
      refine wpAnyH_done (by kernel_rfl) ?_ _
      show Oper.wp _ _ _ _ _ _
      go_simp
      go_wp2
      go_roundg (gk - 1)
      case measure => have := HIK.out; omega
      case rel =>
        refine ⟨i + 1, by go_num, by have := HIK.out; omega, ?_, HB.out.trans HB9.out, fun j h1 h2 => ?_⟩
        · rw [HNX.out, HB7E.out, HB9E.out]
          exact HR9.out
        · obtain ⟨q1, q2⟩ := HKP.out j h1 h2
          have z6 := HB6.out.size
          have z8 := HB8.out.size
          have z7 := HO7.out.size
          have zr := HJZ.out
          have a7 := HO7.out.apart (by omega) q1
          exact ⟨HO9.out.apart (by omega) a7, (HO9.out.block (by omega) a7).trans ((HB8.out.block j (by omega)).trans ((HO7.out.block (by omega) q1).trans ((HB6.out.block j (by omega)).trans q2)))⟩
    · obtain rfl : i = ov.length := by omega
      have g1 : ¬ ((ov.length : Int) < (ov.length : Int)) := by omega
      rw [imgT_all] at HBI
      clear hrow hb hkp hik hbi hnz
      go_wp2
      go_ret
      rw [HBI.out]
      exact ⟨_, rfl, ⟨HRW.out.1, fun k hk => by have := HRW.out.2 k hk; omega⟩, BW.out _ HWW.out⟩
end Go.Proofs.YtcpgbekcbaelpaaGreatDoor
/- Layer 7: what a store tells: Next, Room, Size, Ids, Get. -/
namespace Go.Proofs.YtcpgbekcbaelpaaGreatDoor
open Go.RowKit Go.Maps Wr
set_option linter.unusedVariables false
set_option linter.unusedSimpArgs false
section
variable {w : World} {b g mb pl : Nat} {ov : OV} {s : St.Sto} {F : Nat → Prop}
set_option maxRecDepth 100000 in
theorem next_any (h : StIn w b g mb pl ov s F) : Calls Tryz.prog 14 #[.pointer (some ⟨b, 0, none⟩)] w fun e w' => e = .returned (.int .i64 s.next) ∧ w = w' := by
  obtain ⟨c0, c1, _⟩ := cells11 h.blk
  clear h
  go_enter Tryz.func14, Tryz.ntmps14
  go_wp2
  go_ret
  exact ⟨rfl, rfl⟩
set_option maxRecDepth 100000 in
theorem room_any' {mv lv : Value} {nx fr : Int} {hd : St.Hd2} {each : Nat} (hb : w.heap[b]? = some (storeO mv nx hd g lv fr (each : Int))) (he : each ≤ 100000) : Calls Tryz.prog 21 #[.pointer (some ⟨b, 0, none⟩)] w fun e w' => e = .returned (.int .i64 ((each * 512 : Nat) : Int)) ∧ w = w' := by
  obtain ⟨_, _, _, _, _, _, _, _, _, _, c10, _⟩ := cells11 hb
  have h1 : IntKind.i64.wrap ((each : Int) * 512) = ((each * 512 : Nat) : Int) := by rw [IntKind.wrap_i64]; omega
  clear hb
  go_enter Tryz.func21, Tryz.ntmps21
  go_wp2
  go_ret
  exact ⟨rfl, rfl⟩
set_option maxRecDepth 100000 in
theorem size_any (h : StIn w b g mb pl ov s F) (hn : 0 ≤ s.next ∧ s.next ≤ 4611686018427387904) (hk : ∀ x ∈ ov, 0 ≤ x.1 ∧ x.1 ≤ 4611686018427387904) (hl : (St.image s.objs s.next).length ≤ 500000000) :
    Calls Tryz.prog 20 #[.pointer (some ⟨b, 0, none⟩)] w fun e w' => e = .returned (.int .i64 ((St.image s.objs s.next).length : Int)) ∧ Below w.heap.size w w' := by
  obtain ⟨c0, c1, _⟩ := cells11 h.blk
  have HI := Lib.hid (image_any (next := s.next) h.map h.vals hn hk (by rw [h.ovo]; exact hl))
  rw [h.ovo] at HI
  clear h hn hk hl
  go_enter Tryz.func20, Tryz.ntmps20
  go_wp2_with (go_at_call 45; refine HI.out.mono ?_; rintro e w1 ⟨v1, rfl, hr1, hb1⟩; obtain ⟨a1, c1, rfl, _⟩ := hr1.form; have HB1 := Lib.hid hb1; clear hb1 hr1)
  go_ret
  exact ⟨rfl, HB1.out⟩
set_option maxRecDepth 100000 in
theorem ids_any (h : StIn w b g mb pl ov s F) (hl : ov.length ≤ 1000000000) :
    Calls Tryz.prog 15 #[.pointer (some ⟨b, 0, none⟩)] w fun e w' => ∃ v, e = .returned v ∧ Row w' 3 v (s.objs.map fun x => Value.int .i64 x.1) ∧ (∀ k, v.ownBlock = some k → w.heap.size ≤ k) ∧ Below w.heap.size w w' := by
  obtain ⟨c0, _⟩ := cells11 h.blk
  have HK := Lib.hid (keys_any mb w)
  have HS := Lib.hid (sorted_any h.map hl)
  have he : (ov.map fun x => Value.int .i64 x.1) = s.objs.map fun x => Value.int .i64 x.1 := by rw [← h.ovo]; unfold ovO; rw [List.map_map]; rfl
  rw [he] at HS
  clear h hl he
  go_enter Tryz.func15, Tryz.ntmps15
  go_wp2_with (first
    | (go_at_call 56; refine HK.out.mono ?_; rintro e w1 ⟨rfl, rfl⟩)
    | (go_at_call 55; refine HS.out.mono ?_; rintro e w1 ⟨v1, rfl, hr1, hn1, hb1⟩; have HR1 := Lib.hid hr1; have HN1 := Lib.hid hn1; have HB1 := Lib.hid hb1; clear hr1 hn1 hb1))
  go_ret
  exact ⟨_, rfl, HR1.out, fun k hk => Nat.le_of_lt (HN1.out k hk), HB1.out⟩
theorem ovO_get {l : OV} {k : Int} {v : Value} {b : List UInt8} (hs : OvS l) (h : (k, v, b) ∈ l) : St.oGet (ovO l) k = some b := by
  unfold St.oGet ovO
  rw [List.find?_map]
  have : l.find? ((fun x : Int × List UInt8 => x.1 == k) ∘ fun x => (x.1, x.2.2)) = some (k, v, b) := by
    induction l with
    | nil => cases h
    | cons x l ih =>
      obtain ⟨h1, h2⟩ := List.pairwise_cons.1 hs
      rcases List.mem_cons.1 h with rfl | h
      · simp
      · have := h1 _ h
        rw [List.find?_cons]
        have hne : ((fun x : Int × List UInt8 => x.1 == k) ∘ fun x : Int × Value × List UInt8 => (x.1, x.2.2)) x = false := by
          simp only [Function.comp, beq_eq_false_iff_ne]
          intro e
          simp only at this
          omega
        rw [hne]
        exact ih h2 h
  rw [this]
  rfl
theorem ovO_none {l : OV} {k : Int} (h : ovV l k = none) : St.oGet (ovO l) k = none := by
  unfold St.oGet ovO
  rw [List.find?_map]
  have : l.find? ((fun x : Int × List UInt8 => x.1 == k) ∘ fun x => (x.1, x.2.2)) = none := by
    unfold ovV at h
    rw [Option.map_eq_none_iff] at h
    exact h
  rw [this]
  rfl
def GetEnd (w : World) (r : Option (List UInt8)) (e : Ending) (w' : World) : Prop :=
  match r with
  | some x => DecEnd w x e w'
  | none => e = .returned (.tuple #[.agg #[.int .i64 0, .int .i64 0, .string ⟨#[]⟩, .slice none 0 0], .int .i64 5]) ∧ Below w.heap.size w w'
set_option maxRecDepth 100000 in
set_option maxHeartbeats 1000000 in
theorem get_any (h : StIn w b g mb pl ov s F) (hl : ∀ x ∈ ov, x.2.2.length ≤ 1000000) (id : Int) (hid : (Lit.int .i64 id).wf = true) :
    Calls Tryz.prog 41 #[.pointer (some ⟨b, 0, none⟩), .int .i64 id] w (GetEnd w (St.oGet s.objs id)) := by
  have hb0 : Below w.heap.size w (w.alloc Z4) := (Below.refl _ w).alloc (Nat.le_refl _) _
  have hst := h.below hb0
  obtain ⟨c0, _⟩ := cells11 hst.blk
  have hlk := hst.map.look hid
  have HB0 := Lib.hid hb0
  rw [← h.ovo]
  cases hv : ovV ov id with
  | none =>
    rw [hv] at hlk
    have hog := ovO_none hv
    rw [hog]
    clear h hst hl hv hb0 hog
    go_enter Tryz.func41, Tryz.ntmps41
    go_wp2
    obtain ⟨y0, y1, y2, y3, _⟩ := hdr4_cells (heap_alloc_new w Z4)
    exact bodyPost_ret (v := .tuple #[.agg #[.int .i64 0, .int .i64 0, .string ⟨#[]⟩, .slice none 0 0], .int .i64 5]) (by simp [results, Tryz.results41, go_sem, y0, y1, y2, y3]) rfl ⟨rfl, HB0.out⟩
  | some v =>
    rw [hv] at hlk
    obtain ⟨x, hx⟩ := ovV_some hv
    have hog := ovO_get h.map.1 hx
    rw [hog]
    have hbx := hst.vals _ hx
    dsimp only at hbx
    have HD := Lib.hid (decode_any v x _ hbx.bytesIn (hl _ hx))
    have hz : (w.alloc Z4).heap.size = w.heap.size + 1 := by simp
    have HZ := Lib.hid hz
    obtain ⟨t, ht⟩ : ∃ t, (dec x).1 = t := ⟨_, rfl⟩
    have HT := Lib.hid ht
    clear h hst hl hv hb0 hog hx hbx hz ht
    go_enter Tryz.func41, Tryz.ntmps41
    go_wp2_with (go_at_call 87; refine HD.out.mono ?_; rintro e w1 ⟨v1, rfl, hv1, hb1⟩; rw [HT.out] at hv1; obtain ⟨ao1, cap1, hve⟩ := hv1.form; replace hve : v1 = .agg #[.int .i64 t.kind, .int .i64 t.num, .string t.text, .slice ao1 t.kids.length cap1] := hve; subst hve; have HV1 := Lib.hid hv1; have HB1 := Lib.hid hb1; have hz1 := (hb1.block w.heap.size (by rw [HZ.out]; omega)).trans (heap_alloc_new w Z4); have HZ1 := Lib.hid hz1; obtain ⟨a0, a1, a2, a3, a4⟩ := hdr4_cells hz1; clear hv1 hb1 hz1)
    obtain ⟨z1, z2⟩ := four_ret (y0 := .int .i64 t.kind) (y1 := .int .i64 t.num) (y2 := .string t.text) (y3 := .slice ao1 t.kids.length cap1) HZ1.out
    generalize ((((w1.setCell _ _).setCell _ _).setCell _ _).setCell _ _) = wz at z1 z2 ⊢
    obtain ⟨y0, y1, y2, y3, _⟩ := hdr4_cells z1
    refine bodyPost_ret (v := .tuple #[vval t ao1 cap1, .int .i64 (dec x).2]) (by simp [results, Tryz.results41, go_sem, y0, y1, y2, y3, vval]) rfl ?_
    have hs := z2.size
    refine ⟨_, rfl, by rw [HT.out]; exact HV1.out.chg z2 (fun k hk => ⟨hk.2, fun hf => by simp at hf; have := HZ.out; omega⟩) |>.mono (fun k hk => ⟨by have := HZ.out; omega, by omega⟩), (HB0.out.trans (HB1.out.mono HB0.out.size)).trans (z2.below (Nat.le_trans HB0.out.size HB1.out.size) (fun k hk => by simp at hk; omega))⟩
end
end Go.Proofs.YtcpgbekcbaelpaaGreatDoor
/- Layer 7: a head is read. -/
namespace Go.Proofs.YtcpgbekcbaelpaaGreatDoor
open Go.RowKit Go.Maps Wr
set_option linter.unusedVariables false
set_option linter.unusedSimpArgs false
theorem hd_cells {w : World} {b : Nat} {x0 x1 x2 x3 x4 : Value} {T : TypeId} (h : w.heap[b]? = some (.cells #[x0, x1, x2, x3, x4] T (0, 0))) : w.cell? ⟨b, 0, none⟩ = some x0 ∧ w.cell? ⟨b, 1, none⟩ = some x1 ∧ w.cell? ⟨b, 2, none⟩ = some x2 ∧ w.cell? ⟨b, 3, none⟩ = some x3 ∧ w.cell? ⟨b, 4, none⟩ = some x4 ∧ (∀ j, w.frozen? ⟨b, j, none⟩ = false) :=
  ⟨by simp [World.cell?, h], by simp [World.cell?, h], by simp [World.cell?, h], by simp [World.cell?, h], by simp [World.cell?, h], fun j => by simp [World.frozen?, h]⟩
theorem five_ret {w : World} {H : Nat} {a b c d e y0 y1 y2 y3 y4 : Value} {t : TypeId} (h : w.heap[H]? = some (.cells #[a, b, c, d, e] t (0, 0))) :
    (((((w.setCell ⟨H, 0, none⟩ y0).setCell ⟨H, 1, none⟩ y1).setCell ⟨H, 2, none⟩ y2).setCell ⟨H, 3, none⟩ y3).setCell ⟨H, 4, none⟩ y4).heap[H]? = some (.cells #[y0, y1, y2, y3, y4] t (0, 0)) ∧
    Chg [H] w (((((w.setCell ⟨H, 0, none⟩ y0).setCell ⟨H, 1, none⟩ y1).setCell ⟨H, 2, none⟩ y2).setCell ⟨H, 3, none⟩ y3).setCell ⟨H, 4, none⟩ y4) := by
  refine ⟨(dk_set (o := 4) (u := y4) (dk_set (o := 3) (u := y3) (dk_set (o := 2) (u := y2) (dk_set (o := 1) (u := y1) (dk_set (o := 0) (u := y0) h))))).trans rfl, ?_⟩
  exact ((((chg_set _ _ _ _).then1 (chg_set _ _ _ _)).then1 (chg_set _ _ _ _)).then1 (chg_set _ _ _ _)).then1 (chg_set _ _ _ _)
theorem readHd_no {b : List UInt8} (h : ¬ b.take 2 = [83, 84]) : St.readHd b = St.noHd := by unfold St.readHd; rw [if_neg h]
theorem five_nums {W1 w2 w3 w4 w5 w6 w7 : World} {pr : Nat} (hb : Below W1.heap.size W1 w2) (hp : W1.heap.size ≤ pr) (c3 : Chg [pr] w2 w3) (c4 : Chg [pr] w3 w4) (c5 : Chg [pr] w4 w5) (c6 : Chg [pr] w5 w6) (c7 : Chg [pr] w6 w7) : Below W1.heap.size W1 w7 := by
  have z2 := hb.size
  have z3 := c3.size
  have z4 := c4.size
  have z5 := c5.size
  have z6 := c6.size
  exact ((((hb.trans (c3.below (by omega) (fun k hk => by simp at hk; omega))).trans (c4.below (by omega) (fun k hk => by simp at hk; omega))).trans (c5.below (by omega) (fun k hk => by simp at hk; omega))).trans (c6.below (by omega) (fun k hk => by simp at hk; omega))).trans (c7.below (by omega) (fun k hk => by simp at hk; omega))
set_option maxRecDepth 100000 in
set_option maxHeartbeats 8000000 in
theorem readHead_any {w : World} {v : Value} {b : List UInt8} (hb : BytesIn w v b) (hl : b.length = 512) (hT : Half w) :
    Calls Tryz.prog 101 #[v] w fun e w' => e = .returned (hdV (St.readHd b)) ∧ Below w.heap.size w w' := by
  have hcv1 : (convert 44 44 (.slice (some ⟨w.heap.size + 1, 0, none⟩) 2 2)).run Tryz.prog ((w.alloc (hdO St.noHd)).alloc (.cells #[.int .u8 83, .int .u8 84] 5)) = .ok (.slice (some ⟨w.heap.size + 1, 0, none⟩) 2 2) ((w.alloc (hdO St.noHd)).alloc (.cells #[.int .u8 83, .int .u8 84] 5 (2, 3))) := by
    have := st_conv (w.alloc (hdO St.noHd))
    simpa using this
  have hcv : (convert 44 44 (.slice (some ⟨w.heap.size + 1, 0, none⟩) 2 2)).run Tryz.prog ((w.alloc (.cells #[.int .i64 0, .int .i64 0, .int .i64 0, .int .i64 0, .int .i64 0] 104 (0, 0))).alloc (.cells #[.int .u8 83, .int .u8 84] 5)) = .ok (.slice (some ⟨w.heap.size + 1, 0, none⟩) 2 2) ((w.alloc (.cells #[.int .i64 0, .int .i64 0, .int .i64 0, .int .i64 0, .int .i64 0] 104 (0, 0))).alloc (.cells #[.int .u8 83, .int .u8 84] 5 (2, 3))) := hcv1
  clear hcv1
  obtain ⟨W0, hW0⟩ : ∃ W0, w.alloc (.cells #[.int .i64 0, .int .i64 0, .int .i64 0, .int .i64 0, .int .i64 0] 104 (0, 0)) = W0 := ⟨_, rfl⟩
  obtain ⟨W1, hW1⟩ : ∃ W1, W0.alloc (.cells #[.int .u8 83, .int .u8 84] 5 (2, 3)) = W1 := ⟨_, rfl⟩
  have hzW : W0.heap.size = w.heap.size + 1 := by rw [← hW0]; simp
  have hb1 : Below w.heap.size w W1 := by rw [← hW1, ← hW0]; exact ((Below.refl _ w).alloc (Nat.le_refl _) _).alloc (by simp) _
  have hq1 : W1.heap[w.heap.size]? = some (.cells #[.int .i64 0, .int .i64 0, .int .i64 0, .int .i64 0, .int .i64 0] 104 (0, 0)) := by
    rw [← hW1, ← hW0]
    exact blk_alloc (heap_alloc_new w _) _
  have hst1 : BytesIn W1 (.slice (some ⟨w.heap.size + 1, 0, none⟩) 2 2) [83, 84] := by
    have := (st_lit W0).1
    rw [hW1, hzW] at this
    exact this
  have hz1 : w.heap.size < W1.heap.size := lt_of_block hq1
  have HP := Lib.hid (prefix_any (hb.below hb1) hst1)
  have HS := Lib.hid hb
  have HT := Lib.hid hT
  have HL := Lib.hid hl
  have HB1 := Lib.hid hb1
  have HQ1 := Lib.hid hq1
  have HZ1 := Lib.hid hz1
  rw [hW0, hW1] at hcv
  have HCV := Lib.hid hcv
  have HW0 := Lib.hid hW0
  have HW1 := Lib.hid hW1
  obtain ⟨ao, ca, rfl, a1, a2, _⟩ := hb
  obtain ⟨y0, y1, y2, y3, y4, yf⟩ := hd_cells hq1
  by_cases hp : b.take 2 = [83, 84]
  · have HP' : Hid (Calls Tryz.prog 146 #[.slice ao b.length ca, .slice (some ⟨w.heap.size + 1, 0, none⟩) 2 2] W1 fun e w' => e = .returned (.bool true) ∧ W1 = w') := by
      have := HP.out
      rw [show decide (List.take ([83, 84] : List UInt8).length b = [83, 84]) = true from decide_eq_true hp] at this
      exact this
    obtain ⟨b1, c1, h1, h2⟩ := slice_l HS.out 2 510 (by omega)
    have h1' : ∀ W, (Instr.slice 44 (.slice ao b.length ca) (some (.int .i64 2)) none none).run Tryz.prog W = .ok (.slice b1 510 c1) W := h1
    clear h1
    have HO := Lib.hid (open_any _ (b.drop 2) _ (h2.below hb1) (by rw [List.length_drop]; omega))
    obtain ⟨⟨tv, tb, tx⟩, ht0⟩ : ∃ a, rn 1 4611686018427387904 (b.drop 2) 0 = a := ⟨_, rfl⟩
    have htl : tb.length ≤ 1000000 := by have := rn_le 1 4611686018427387904 (b.drop 2) 0; rw [ht0] at this; exact Nat.le_trans this (by rw [List.length_drop]; omega)
    have htc : 0 ≤ tv ∧ tv ≤ 4611686018427387904 := by have := rn_count (lo := 1) (hi := 4611686018427387904) (b.drop 2) 0 (by omega) (by omega); rw [ht0] at this; exact this
    obtain ⟨⟨fv, fb, fx⟩, hf0⟩ : ∃ a, rn 0 1 tb tx = a := ⟨_, rfl⟩
    have hfl : fb.length ≤ 1000000 := by have := rn_le 0 1 tb tx; rw [hf0] at this; exact Nat.le_trans this htl
    have hfc : 0 ≤ fv ∧ fv ≤ 1 := by have := rn_count (lo := 0) (hi := 1) tb tx (by omega) (by omega); rw [hf0] at this; exact this
    obtain ⟨⟨zv, zb, zx⟩, hz0⟩ : ∃ a, rn 0 67108864 fb fx = a := ⟨_, rfl⟩
    have hzl : zb.length ≤ 1000000 := by have := rn_le 0 67108864 fb fx; rw [hz0] at this; exact Nat.le_trans this hfl
    have hzc : 0 ≤ zv ∧ zv ≤ 67108864 := by have := rn_count (lo := 0) (hi := 67108864) fb fx (by omega) (by omega); rw [hz0] at this; exact this
    obtain ⟨⟨sv, sb, sx⟩, hs0⟩ : ∃ a, rn 0 4294967296 zb zx = a := ⟨_, rfl⟩
    have hsl : sb.length ≤ 1000000 := by have := rn_le 0 4294967296 zb zx; rw [hs0] at this; exact Nat.le_trans this hzl
    have hsc : 0 ≤ sv ∧ sv ≤ 4294967296 := by have := rn_count (lo := 0) (hi := 4294967296) zb zx (by omega) (by omega); rw [hs0] at this; exact this
    obtain ⟨⟨av, ab, ax⟩, ha0⟩ : ∃ a, rn 1 4611686018427387904 sb sx = a := ⟨_, rfl⟩
    have hal : ab.length ≤ 1000000 := by have := rn_le 1 4611686018427387904 sb sx; rw [ha0] at this; exact Nat.le_trans this hsl
    have hac : 0 ≤ av ∧ av ≤ 4611686018427387904 := by have := rn_count (lo := 1) (hi := 4611686018427387904) sb sx (by omega) (by omega); rw [ha0] at this; exact this
    have hdef : St.readHd b = if ax = 0 ∧ St.full (St.Hd2.bytes ⟨tv, fv, zv, sv, av⟩) = b then ⟨tv, fv, zv, sv, av⟩ else St.noHd := by
      have hma : St.mostAge = 4611686018427387904 := rfl
      unfold St.readHd
      rw [if_pos hp]
      dsimp only
      rw [hma, ht0]
      dsimp only
      rw [hf0]
      dsimp only
      rw [hz0]
      dsimp only
      rw [hs0]
      dsimp only
      rw [ha0]
    rw [hdef]
    have hok : HdOk ⟨tv, fv, zv, sv, av⟩ := ⟨htc, ⟨hfc.1, Int.le_trans hfc.2 (by decide)⟩, ⟨hzc.1, Int.le_trans hzc.2 (by decide)⟩, ⟨hsc.1, Int.le_trans hsc.2 (by decide)⟩, hac⟩
    obtain ⟨hh, hhe⟩ : ∃ hh : St.Hd2, hh = ⟨tv, fv, zv, sv, av⟩ := ⟨_, rfl⟩
    have HOK := Lib.hid hok
    have HHB := Lib.hid (fun W hW => headBytes_any hok W hW)
    have hbl : (St.Hd2.bytes ⟨tv, fv, zv, sv, av⟩).length ≤ 1000 := by
      have := hdB_len hok 5
      rw [← hdB_bytes, St.close_len]
      omega
    have HBL := Lib.hid hbl
    have HDL : Hid ((b.drop 2).length ≤ 1000000) := by show _ ≤ _; rw [List.length_drop]; omega
    have HTL := Lib.hid htl
    have HFL := Lib.hid hfl
    have HZL := Lib.hid hzl
    have HSL := Lib.hid hsl
    have HT0 := Lib.hid ht0
    have HF0 := Lib.hid hf0
    have HZ0 := Lib.hid hz0
    have HS0 := Lib.hid hs0
    have HA0 := Lib.hid ha0
    clear hp hl HP hb1 hq1 hst1 hz1 h2 ht0 htl htc hf0 hfl hfc hz0 hzl hzc hs0 hsl hsc ha0 hal hac hdef hok hbl hhe
    by_cases hx : ax = 0
    · subst hx
      obtain ⟨r, hr⟩ : ∃ r, decide (St.full (St.Hd2.bytes ⟨tv, fv, zv, sv, av⟩) = b) = r := ⟨_, rfl⟩
      have HRR := Lib.hid hr
      cases r with
      | true =>
        rw [if_pos ⟨rfl, of_decide_eq_true hr⟩]
        clear hr
        go_enter Tryz.func101, Tryz.ntmps101
        go_wp2_with (first
          | (go_at_call 146; refine HP'.out.mono ?_; rintro e w1 ⟨rfl, rfl⟩)
          | (go_at_call 110; refine HO.out.mono ?_; rintro e w2 ⟨pr, M2, rfl, hp1, hp2, hin, hb⟩; have HI2 := Lib.hid hin; have HP1 := Lib.hid hp1; have HB2 := Lib.hid hb; clear hp1 hp2 hin hb)
          | (go_at_call 111; (with_reducible refine (wNum_fn pr (b.drop 2) 0 1 4611686018427387904 w2 HI2.out HDL.out).mono ?_); rintro e w3 ⟨he, hin, hc⟩; rw [HT0.out] at he hin; dsimp only at he hin; subst he; have HI3 := Lib.hid hin; have HC3 := Lib.hid hc; clear hin hc HT0)
          | (go_at_call 111; (with_reducible refine (wNum_fn pr tb tx 0 1 w3 HI3.out HTL.out).mono ?_); rintro e w4 ⟨he, hin, hc⟩; rw [HF0.out] at he hin; dsimp only at he hin; subst he; have HI4 := Lib.hid hin; have HC4 := Lib.hid hc; clear hin hc HF0)
          | (go_at_call 111; (with_reducible refine (wNum_fn pr fb fx 0 67108864 w4 HI4.out HFL.out).mono ?_); rintro e w5 ⟨he, hin, hc⟩; rw [HZ0.out] at he hin; dsimp only at he hin; subst he; have HI5 := Lib.hid hin; have HC5 := Lib.hid hc; clear hin hc HZ0)
          | (go_at_call 111; (with_reducible refine (wNum_fn pr zb zx 0 4294967296 w5 HI5.out HZL.out).mono ?_); rintro e w6 ⟨he, hin, hc⟩; rw [HS0.out] at he hin; dsimp only at he hin; subst he; have HI6 := Lib.hid hin; have HC6 := Lib.hid hc; clear hin hc HS0)
          | (go_at_call 111; (with_reducible refine (wNum_fn pr sb sx 1 4611686018427387904 w6 HI6.out HSL.out).mono ?_); rintro e w7 ⟨he, hin, hc⟩; rw [HA0.out] at he hin; dsimp only at he hin; subst he; have HI7 := Lib.hid hin; have HC7 := Lib.hid hc; clear hin hc HA0)
          | (go_at_call 114; refine (err_any pr ab 0 (w7.alloc (.cells #[.int .i64 tv, .int .i64 fv, .int .i64 zv, .int .i64 sv, .int .i64 av] 104)) (InW.chg HI7.out ((Chg.refl [] w7).alloc _) (by simp) (by simp))).mono ?_; rintro e w8 ⟨rfl, rfl⟩; have hb7 := five_nums HB2.out HP1.out HC3.out HC4.out HC5.out HC6.out HC7.out; have hb8 : Below W1.heap.size W1 (w7.alloc (.cells #[.int .i64 tv, .int .i64 fv, .int .i64 zv, .int .i64 sv, .int .i64 av] 104)) := hb7.alloc hb7.size _; have hq8 := (hb8.block _ HZ1.out).trans HQ1.out; obtain ⟨_, _, _, _, _, rf8⟩ := hd_cells hq8; have HB8 := Lib.hid hb8; have HQ8 := Lib.hid hq8; have HW8 : Hid (Below w.heap.size w (w7.alloc (.cells #[.int .i64 tv, .int .i64 fv, .int .i64 zv, .int .i64 sv, .int .i64 av] 104))) := HB1.out.trans (hb8.mono HB1.out.size); have hh8 := heap_alloc_new w7 (.cells #[.int .i64 tv, .int .i64 fv, .int .i64 zv, .int .i64 sv, .int .i64 av] 104); obtain ⟨g0, g1, g2, g3, g4, _⟩ := hd_cells hh8; have HH8 := Lib.hid hh8; clear hb7 hb8 hq8 hh8)
          | (go_at_call 126; refine (HHB.out _ (HT.out.below HW8.out)).mono ?_; rintro e w9 ⟨v9, rfl, hr9, hb9⟩; obtain ⟨a9, c9, rfl, _⟩ := hr9.form; have HR9 := Lib.hid hr9; have HB9 := Lib.hid hb9; clear hr9 hb9)
          | (go_at_call 125; refine (full_any (BytesIn.row HR9.out) (by have := HBL.out; omega)).mono ?_; rintro e w10 ⟨v10, rfl, hr10, hb10⟩; obtain ⟨b10, hb10e⟩ : ∃ b10, St.full (St.Hd2.bytes ⟨tv, fv, zv, sv, av⟩) = b10 := ⟨_, rfl⟩; rw [hb10e] at hr10; have HFE := Lib.hid hb10e; clear hb10e; obtain ⟨a10, c10, rfl, _⟩ := hr10.form; have HR10 := Lib.hid hr10; have hb11 := HB9.out.trans (hb10.mono HB9.out.size); have HB10 := Lib.hid hb11; have HW10 : Hid (Below w.heap.size w w10) := HW8.out.trans (hb11.mono HW8.out.size); have hq10 := (hb11.block _ (lt_of_block HQ8.out)).trans HQ8.out; have HQ10 := Lib.hid hq10; obtain ⟨_, _, _, _, _, rf10⟩ := hd_cells hq10; have hh10 := (hb11.block _ (lt_of_block HH8.out)).trans HH8.out; obtain ⟨k0, k1, k2, k3, k4, _⟩ := hd_cells hh10; clear hr10 hb10 hb11 hq10 hh10)
          | (go_at_call 74; refine (equal_any (BytesIn.row HR10.out) (HS.out.below HW10.out)).mono ?_; rintro e w11 ⟨he, rfl⟩; rw [show decide (b10 = b) = true from by rw [← HFE.out]; exact HRR.out] at he; subst he))
        obtain ⟨z1, z2⟩ := five_ret (y0 := .int .i64 tv) (y1 := .int .i64 fv) (y2 := .int .i64 zv) (y3 := .int .i64 sv) (y4 := .int .i64 av) HQ10.out
        generalize (((((World.setCell _ _ _).setCell _ _).setCell _ _).setCell _ _).setCell _ _) = wz at z1 z2 ⊢
        obtain ⟨y0, y1, y2, y3, y4, _⟩ := hd_cells z1
        exact bodyPost_ret (v := hdV ⟨tv, fv, zv, sv, av⟩) (by simp [results, Tryz.results101, go_sem, y0, y1, y2, y3, y4]) rfl ⟨rfl, HW10.out.trans (z2.below HW10.out.size (fun k hk => by simp at hk; omega))⟩
      | false =>
        rw [if_neg (fun h => of_decide_eq_false hr h.2)]
        clear hr
        go_enter Tryz.func101, Tryz.ntmps101
        go_wp2_with (first
          | (go_at_call 146; refine HP'.out.mono ?_; rintro e w1 ⟨rfl, rfl⟩)
          | (go_at_call 110; refine HO.out.mono ?_; rintro e w2 ⟨pr, M2, rfl, hp1, hp2, hin, hb⟩; have HI2 := Lib.hid hin; have HP1 := Lib.hid hp1; have HB2 := Lib.hid hb; clear hp1 hp2 hin hb)
          | (go_at_call 111; (with_reducible refine (wNum_fn pr (b.drop 2) 0 1 4611686018427387904 w2 HI2.out HDL.out).mono ?_); rintro e w3 ⟨he, hin, hc⟩; rw [HT0.out] at he hin; dsimp only at he hin; subst he; have HI3 := Lib.hid hin; have HC3 := Lib.hid hc; clear hin hc HT0)
          | (go_at_call 111; (with_reducible refine (wNum_fn pr tb tx 0 1 w3 HI3.out HTL.out).mono ?_); rintro e w4 ⟨he, hin, hc⟩; rw [HF0.out] at he hin; dsimp only at he hin; subst he; have HI4 := Lib.hid hin; have HC4 := Lib.hid hc; clear hin hc HF0)
          | (go_at_call 111; (with_reducible refine (wNum_fn pr fb fx 0 67108864 w4 HI4.out HFL.out).mono ?_); rintro e w5 ⟨he, hin, hc⟩; rw [HZ0.out] at he hin; dsimp only at he hin; subst he; have HI5 := Lib.hid hin; have HC5 := Lib.hid hc; clear hin hc HZ0)
          | (go_at_call 111; (with_reducible refine (wNum_fn pr zb zx 0 4294967296 w5 HI5.out HZL.out).mono ?_); rintro e w6 ⟨he, hin, hc⟩; rw [HS0.out] at he hin; dsimp only at he hin; subst he; have HI6 := Lib.hid hin; have HC6 := Lib.hid hc; clear hin hc HS0)
          | (go_at_call 111; (with_reducible refine (wNum_fn pr sb sx 1 4611686018427387904 w6 HI6.out HSL.out).mono ?_); rintro e w7 ⟨he, hin, hc⟩; rw [HA0.out] at he hin; dsimp only at he hin; subst he; have HI7 := Lib.hid hin; have HC7 := Lib.hid hc; clear hin hc HA0)
          | (go_at_call 114; refine (err_any pr ab 0 (w7.alloc (.cells #[.int .i64 tv, .int .i64 fv, .int .i64 zv, .int .i64 sv, .int .i64 av] 104)) (InW.chg HI7.out ((Chg.refl [] w7).alloc _) (by simp) (by simp))).mono ?_; rintro e w8 ⟨rfl, rfl⟩; have hb7 := five_nums HB2.out HP1.out HC3.out HC4.out HC5.out HC6.out HC7.out; have hb8 : Below W1.heap.size W1 (w7.alloc (.cells #[.int .i64 tv, .int .i64 fv, .int .i64 zv, .int .i64 sv, .int .i64 av] 104)) := hb7.alloc hb7.size _; have hq8 := (hb8.block _ HZ1.out).trans HQ1.out; obtain ⟨_, _, _, _, _, rf8⟩ := hd_cells hq8; have HB8 := Lib.hid hb8; have HQ8 := Lib.hid hq8; have HW8 : Hid (Below w.heap.size w (w7.alloc (.cells #[.int .i64 tv, .int .i64 fv, .int .i64 zv, .int .i64 sv, .int .i64 av] 104))) := HB1.out.trans (hb8.mono HB1.out.size); have hh8 := heap_alloc_new w7 (.cells #[.int .i64 tv, .int .i64 fv, .int .i64 zv, .int .i64 sv, .int .i64 av] 104); obtain ⟨g0, g1, g2, g3, g4, _⟩ := hd_cells hh8; have HH8 := Lib.hid hh8; clear hb7 hb8 hq8 hh8)
          | (go_at_call 126; refine (HHB.out _ (HT.out.below HW8.out)).mono ?_; rintro e w9 ⟨v9, rfl, hr9, hb9⟩; obtain ⟨a9, c9, rfl, _⟩ := hr9.form; have HR9 := Lib.hid hr9; have HB9 := Lib.hid hb9; clear hr9 hb9)
          | (go_at_call 125; refine (full_any (BytesIn.row HR9.out) (by have := HBL.out; omega)).mono ?_; rintro e w10 ⟨v10, rfl, hr10, hb10⟩; obtain ⟨b10, hb10e⟩ : ∃ b10, St.full (St.Hd2.bytes ⟨tv, fv, zv, sv, av⟩) = b10 := ⟨_, rfl⟩; rw [hb10e] at hr10; have HFE := Lib.hid hb10e; clear hb10e; obtain ⟨a10, c10, rfl, _⟩ := hr10.form; have HR10 := Lib.hid hr10; have hb11 := HB9.out.trans (hb10.mono HB9.out.size); have HB10 := Lib.hid hb11; have HW10 : Hid (Below w.heap.size w w10) := HW8.out.trans (hb11.mono HW8.out.size); have hq10 := (hb11.block _ (lt_of_block HQ8.out)).trans HQ8.out; have HQ10 := Lib.hid hq10; obtain ⟨_, _, _, _, _, rf10⟩ := hd_cells hq10; have hh10 := (hb11.block _ (lt_of_block HH8.out)).trans HH8.out; obtain ⟨k0, k1, k2, k3, k4, _⟩ := hd_cells hh10; clear hr10 hb10 hb11 hq10 hh10)
          | (go_at_call 74; refine (equal_any (BytesIn.row HR10.out) (HS.out.below HW10.out)).mono ?_; rintro e w11 ⟨he, rfl⟩; rw [show decide (b10 = b) = false from by rw [← HFE.out]; exact HRR.out] at he; subst he))
        obtain ⟨z1, z2⟩ := five_ret (y0 := .int .i64 0) (y1 := .int .i64 0) (y2 := .int .i64 0) (y3 := .int .i64 0) (y4 := .int .i64 0) HQ10.out
        generalize (((((World.setCell _ _ _).setCell _ _).setCell _ _).setCell _ _).setCell _ _) = wz at z1 z2 ⊢
        obtain ⟨y0, y1, y2, y3, y4, _⟩ := hd_cells z1
        exact bodyPost_ret (v := hdV St.noHd) (by simp [results, Tryz.results101, go_sem, y0, y1, y2, y3, y4, St.noHd]) rfl ⟨rfl, HW10.out.trans (z2.below HW10.out.size (fun k hk => by simp at hk; omega))⟩
    · have q2 : (ax == 0) = false := by simpa using hx
      have q3 : (ax != 0) = true := by simpa using hx
      rw [if_neg (fun h => hx h.1)]
      clear hx
      go_enter Tryz.func101, Tryz.ntmps101
      go_wp2_with (first
        | (go_at_call 146; refine HP'.out.mono ?_; rintro e w1 ⟨rfl, rfl⟩)
        | (go_at_call 110; refine HO.out.mono ?_; rintro e w2 ⟨pr, M2, rfl, hp1, hp2, hin, hb⟩; have HI2 := Lib.hid hin; have HP1 := Lib.hid hp1; have HB2 := Lib.hid hb; clear hp1 hp2 hin hb)
        | (go_at_call 111; (with_reducible refine (wNum_fn pr (b.drop 2) 0 1 4611686018427387904 w2 HI2.out HDL.out).mono ?_); rintro e w3 ⟨he, hin, hc⟩; rw [HT0.out] at he hin; dsimp only at he hin; subst he; have HI3 := Lib.hid hin; have HC3 := Lib.hid hc; clear hin hc HT0)
        | (go_at_call 111; (with_reducible refine (wNum_fn pr tb tx 0 1 w3 HI3.out HTL.out).mono ?_); rintro e w4 ⟨he, hin, hc⟩; rw [HF0.out] at he hin; dsimp only at he hin; subst he; have HI4 := Lib.hid hin; have HC4 := Lib.hid hc; clear hin hc HF0)
        | (go_at_call 111; (with_reducible refine (wNum_fn pr fb fx 0 67108864 w4 HI4.out HFL.out).mono ?_); rintro e w5 ⟨he, hin, hc⟩; rw [HZ0.out] at he hin; dsimp only at he hin; subst he; have HI5 := Lib.hid hin; have HC5 := Lib.hid hc; clear hin hc HZ0)
        | (go_at_call 111; (with_reducible refine (wNum_fn pr zb zx 0 4294967296 w5 HI5.out HZL.out).mono ?_); rintro e w6 ⟨he, hin, hc⟩; rw [HS0.out] at he hin; dsimp only at he hin; subst he; have HI6 := Lib.hid hin; have HC6 := Lib.hid hc; clear hin hc HS0)
        | (go_at_call 111; (with_reducible refine (wNum_fn pr sb sx 1 4611686018427387904 w6 HI6.out HSL.out).mono ?_); rintro e w7 ⟨he, hin, hc⟩; rw [HA0.out] at he hin; dsimp only at he hin; subst he; have HI7 := Lib.hid hin; have HC7 := Lib.hid hc; clear hin hc HA0)
        | (go_at_call 114; refine (err_any pr ab ax (w7.alloc (.cells #[.int .i64 tv, .int .i64 fv, .int .i64 zv, .int .i64 sv, .int .i64 av] 104)) (InW.chg HI7.out ((Chg.refl [] w7).alloc _) (by simp) (by simp))).mono ?_; rintro e w8 ⟨rfl, rfl⟩; have hb7 := five_nums HB2.out HP1.out HC3.out HC4.out HC5.out HC6.out HC7.out; have hb8 : Below W1.heap.size W1 (w7.alloc (.cells #[.int .i64 tv, .int .i64 fv, .int .i64 zv, .int .i64 sv, .int .i64 av] 104)) := hb7.alloc hb7.size _; have hq8 := (hb8.block _ HZ1.out).trans HQ1.out; obtain ⟨_, _, _, _, _, rf8⟩ := hd_cells hq8; have HB8 := Lib.hid hb8; have HQ8 := Lib.hid hq8; have HW8 : Hid (Below w.heap.size w (w7.alloc (.cells #[.int .i64 tv, .int .i64 fv, .int .i64 zv, .int .i64 sv, .int .i64 av] 104))) := HB1.out.trans (hb8.mono HB1.out.size); have hh8 := heap_alloc_new w7 (.cells #[.int .i64 tv, .int .i64 fv, .int .i64 zv, .int .i64 sv, .int .i64 av] 104); obtain ⟨g0, g1, g2, g3, g4, _⟩ := hd_cells hh8; have HH8 := Lib.hid hh8; clear hb7 hb8 hq8 hh8))
      obtain ⟨z1, z2⟩ := five_ret (y0 := .int .i64 0) (y1 := .int .i64 0) (y2 := .int .i64 0) (y3 := .int .i64 0) (y4 := .int .i64 0) HQ8.out
      generalize (((((World.setCell _ _ _).setCell _ _).setCell _ _).setCell _ _).setCell _ _) = wz at z1 z2 ⊢
      obtain ⟨y0, y1, y2, y3, y4, _⟩ := hd_cells z1
      exact bodyPost_ret (v := hdV St.noHd) (by simp [results, Tryz.results101, go_sem, y0, y1, y2, y3, y4, St.noHd]) rfl ⟨rfl, HW8.out.trans (z2.below HW8.out.size (fun k hk => by simp at hk; omega))⟩
  · rw [readHd_no hp]
    have HP' : Hid (Calls Tryz.prog 146 #[.slice ao b.length ca, .slice (some ⟨w.heap.size + 1, 0, none⟩) 2 2] W1 fun e w' => e = .returned (.bool false) ∧ W1 = w') := by
      have := HP.out
      rw [show decide (List.take ([83, 84] : List UInt8).length b = [83, 84]) = false from decide_eq_false hp] at this
      exact this
    clear hp hl HP hb1 hq1 hst1 hz1
    go_enter Tryz.func101, Tryz.ntmps101
    go_wp2_with (go_at_call 146; refine HP'.out.mono ?_; rintro e w1 ⟨rfl, rfl⟩)
    obtain ⟨z1, z2⟩ := five_ret (y0 := .int .i64 0) (y1 := .int .i64 0) (y2 := .int .i64 0) (y3 := .int .i64 0) (y4 := .int .i64 0) HQ1.out
    generalize (((((W1.setCell _ _).setCell _ _).setCell _ _).setCell _ _).setCell _ _) = wz at z1 z2 ⊢
    obtain ⟨y0, y1, y2, y3, y4, _⟩ := hd_cells z1
    exact bodyPost_ret (v := hdV St.noHd) (by simp [results, Tryz.results101, go_sem, y0, y1, y2, y3, y4, St.noHd]) rfl ⟨rfl, HB1.out.trans (z2.below HB1.out.size (fun k hk => by simp at hk; omega))⟩
end Go.Proofs.YtcpgbekcbaelpaaGreatDoor
