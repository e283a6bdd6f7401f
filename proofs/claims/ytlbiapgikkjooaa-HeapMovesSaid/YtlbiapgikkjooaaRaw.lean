/- What the calls of a heap come to, tenth part: Raw. -/
import Derived.Test.YtlbiapgikkjooaaHeapWalk9
import Derived.Test.YtlbiapgikkjooaaPack
namespace Go.Proofs.Ytlbiapgikkjooaa
open Go.RowKit Go.Maps Hp
set_option linter.unusedSimpArgs false
set_option linter.unusedVariables false
set_option linter.unusedSectionVars false

/-- A head of bytes. -/
theorem head_or_raw (n k : Nat) (hn : n ≤ 1000000000) (hk : k < 1024) : bits .or .i64 (bits .or .i64 ((n : Int) * 2048) 1024) (k : Int) = (n : Int) * 2048 + 1024 + k := by
  rw [show (n : Int) * 2048 = ((n * 2048 : Nat) : Int) from by omega, show (1024 : Int) = ((1024 : Nat) : Int) from rfl, i64_or_nat _ _ (by omega) (by omega), nat_join 11 (n * 2048) 1024 (by omega) (by omega),
    i64_or_nat _ _ (by omega) (by omega), nat_join 10 (n * 2048 + 1024) k (by omega) (by omega)]
  omega

def rawOb (kind : Nat) (l : List UInt8) : Ob := ⟨kind, true, [], l⟩
theorem rawOb_size (kind : Nat) (l : List UInt8) : (rawOb kind l).size = 1 + (l.length + 7) / 8 := by simp [rawOb, Ob.size]
theorem rawOb_head (kind : Nat) (l : List UInt8) : head (rawOb kind l) = (l.length : Int) * 2048 + 1024 + kind := by simp [rawOb, head]

theorem head_is_raw (kind : Nat) (l : List UInt8) (hk : kind ≤ 1000) (hs : l.length ≤ 30000000) : HeadIs (head (rawOb kind l)) (rawOb kind l) := by
  rw [rawOb_head]
  have hn : (l.length : Int) * 2048 + 1024 + (kind : Int) = ((l.length * 2048 + 1024 + kind : Nat) : Int) := by omega
  have h1 := and_1024 (l.length * 2048 + 1024 + kind) (by omega)
  have h2 := and_1023 (l.length * 2048 + 1024 + kind) (by omega)
  refine ⟨?_, ?_, ?_, ?_, ?_⟩
  · rw [hn, h1]; simp only [rawOb, if_true]; omega
  · rw [hn, h2]; simp only [rawOb]; omega
  · simp only [rawOb, if_true]; omega
  · omega
  · omega

/-- One byte more in a cell, in the walk's own words. -/
theorem raw_step (l : List UInt8) (i k : Nat) (b : UInt8) (hk : k < 8) (hb : l[8 * i + k]? = some b) :
    bits .or .u64 (packOne ((l.drop (8 * i)).take k)) (IntKind.u64.wrap (IntKind.u64.wrap (b.toNat : Int) * 2 ^ (8 * k))) = packOne ((l.drop (8 * i)).take (k + 1)) := by
  have hlt := (List.getElem?_eq_some_iff.1 hb).1
  have hlen := chunk_len l i k (by omega)
  have hbb : b.toNat < 256 := UInt8.toNat_lt b
  rw [chunk_take l i k b hk hb, packOne_snoc, hlen]
  have h0 := packOne_nonneg ((l.drop (8 * i)).take k)
  have h1 := packOne_lt ((l.drop (8 * i)).take k)
  rw [hlen] at h1
  obtain ⟨x, hx⟩ : ∃ x : Nat, packOne ((l.drop (8 * i)).take k) = (x : Int) := ⟨(packOne ((l.drop (8 * i)).take k)).toNat, by omega⟩
  rw [hx] at h1 ⊢
  have e256 : (256 : Int) ^ k = ((2 ^ (8 * k) : Nat) : Int) := by
    rw [Nat.pow_mul]; simp
  rw [e256] at h1 ⊢
  have hx2 : x < 2 ^ (8 * k) := Int.ofNat_lt.1 h1
  have e1 : IntKind.u64.wrap (b.toNat : Int) = (b.toNat : Int) := by show (b.toNat : Int) % 18446744073709551616 = _; omega
  have h3 : b.toNat * 2 ^ (8 * k) < 18446744073709551616 := by
    have h4 : 2 ^ (8 * k) ≤ 2 ^ 56 := Nat.pow_le_pow_right (by omega) (by omega)
    have h5 : b.toNat * 2 ^ (8 * k) ≤ 255 * 2 ^ 56 := Nat.mul_le_mul (by omega) h4
    omega
  have e2 : (b.toNat : Int) * 2 ^ (8 * k) = ((b.toNat * 2 ^ (8 * k) : Nat) : Int) := by simp
  have e3 : IntKind.u64.wrap ((b.toNat * 2 ^ (8 * k) : Nat) : Int) = ((b.toNat * 2 ^ (8 * k) : Nat) : Int) := by
    show ((b.toNat * 2 ^ (8 * k) : Nat) : Int) % 18446744073709551616 = _
    omega
  rw [e1, e2, e3, u64_or_byte x b.toNat k hx2 hbb hk]
  simp

def RawLoop (w0 : World) (p bp np : Nat) (vc0 vs : Value) (lim : Nat) (cells stack news : List Int) (pins : Int → Option Int) (k : Nat) (s : Value) (w : World) : Prop :=
  ∃ i : Nat, s = .int .i64 (8 * (i : Int)) ∧ MakeLoop w0 p bp np vc0 vs lim cells stack news pins k (.int .i64 i) w
theorem rawLoop_next {w w0 w1 : World} {p bp np : Nat} {vc vs vc0 : Value} {cells stack : List Int} {pins : Int → Option Int} {lim g m cap i k : Nat} {x : Int} {news : List Int} {o : Obj} (h : HeapIs w p bp np vc vs lim (cells ++ news.take i) stack pins) (hc : Chg (foot p bp vc0 vs) w0 w) (hw : Within (foot p bp vc0 vs) (foot p bp vc vs) w0.heap.size)
    (hx : news[i]? = some x) (hk : i + 1 + k = news.length)
    (hg : (w.alloc o).grownBy w1 vc.ownBlock) (hr : Row w1 3 (.slice (some ⟨g, 0, none⟩) m cap) (ints (cells ++ news.take i) ++ [.int .i64 x])) (hl : vc.ownBlock = some g ∨ g = (w.alloc o).heap.size) :
    RawLoop w0 p bp np vc0 vs lim cells stack news pins k (.int .i64 (8 * (i : Int) + 8)) (w1.setCell ⟨p, 1, none⟩ (.slice (some ⟨g, 0, none⟩) m cap)) := by
  refine ⟨i + 1, ?_, ?_⟩
  · rw [show 8 * (i : Int) + 8 = 8 * ((i + 1 : Nat) : Int) by omega]
  · exact makeLoop_next h hc hw hx hk hg hr hl
def ByteLoop (l : List UInt8) (i n : Nat) (k : Nat) (s1 s2 : Value) : Prop := ∃ j : Nat, s2 = .int .i64 j ∧ j + k = n ∧ s1 = .int .u64 (packOne ((l.drop (8 * i)).take j))

section
variable {A : AH} {φ : Nat → Nat} {w w' : World} {p bp np : Nat} {vc vs : Value} {cells stack : List Int} {pins : Int → Option Int}

set_option maxRecDepth 100000 in
set_option maxHeartbeats 3200000 in
theorem raw_room (h : HeapIs w p bp np vc vs A.limit cells stack pins) (hrep : Rep A φ cells stack pins) (hlim : A.limit ≤ 4194304) (hst : stack.length < 1000000000) (hnp : np < 1000000000) (kind : Nat) (s : ByteArray) (hk : kind ≤ 1000) (hs : s.size ≤ 30000000) (hroom : A.live + (1 + (s.size + 7) / 8) ≤ A.limit) :
    Calls Try.prog 26 #[.pointer (some ⟨p, 0, none⟩), .int .i64 kind, .string s] w (PutEnd A w p bp np vc vs (rawOb kind s.data.toList) 0) := by
  have hsl : stack.length = A.stack.length := by rw [hrep.stack, List.length_map]
  have hsz : s.data.toList.length = s.size := by simp
  have RM := room_any h hrep hlim hst hnp (1 + (s.size + 7) / 8) (by omega)
  have HD := head_is_raw kind s.data.toList hk (by omega)
  have ND : ∀ w, Calls Try.prog 50 #[.int .i64 ((s.size : Int) * 2048 + 1024 + (kind : Int))] w fun e w' => e = .returned (.int .i64 (((s.size + 7) / 8 : Nat) : Int)) ∧ w = w' := fun w => by
    have := need_raw _ _ HD rfl w
    rw [rawOb_head, hsz] at this
    simp only [rawOb] at this
    rwa [hsz] at this
  obtain ⟨ao, scap, rfl, hsc, hsm, hnil, hsome⟩ := h.rs.form
  rw [ints_length, hsl] at hsc
  rw [ints_length, hsl] at h RM ⊢
  clear hnil hsome
  have c2 := h.c2
  have H := Lib.hid h
  have R := Lib.hid hrep
  have HS := Lib.hid hsl
  clear h hrep hsl
  have hk0 : 0 ≤ (kind : Int) := by omega
  have hk1 : (kind : Int) ≤ 1000 := by omega
  have hs1 : (s.size : Int) ≤ 30000000 := by omega
  have HRM := Lib.hid hroom
  have HST := Lib.hid hst
  have HK := Lib.hid hk
  have HSZ := Lib.hid hsz
  have hor := head_or_raw s.size kind (by omega) (by omega)
  obtain ⟨hd, hhd⟩ : ∃ hd : Int, hd = (s.size : Int) * 2048 + 1024 + (kind : Int) := ⟨_, rfl⟩
  obtain ⟨nc, hnc⟩ : ∃ nc : Nat, nc = (s.size + 7) / 8 := ⟨_, rfl⟩
  rw [← hhd] at hor ND
  rw [← hnc] at ND RM HRM
  have hnc1 : nc ≤ 4000000 := by omega
  have RM' : Calls Try.prog 46 #[.pointer (some ⟨p, 0, none⟩), .int .i64 (1 + (nc : Int))] w (RoomEnd A w p bp np vc (.slice ao A.stack.length scap) (1 + nc)) := by
    have e1 : (1 : Int) + (nc : Int) = ((1 + nc : Nat) : Int) := by omega
    rw [e1]; exact RM
  have RM2 := Lib.hid RM'
  have NDD := Lib.hid ND
  have HHD := Lib.hid hhd
  have HNC := Lib.hid hnc
  clear RM RM' ND hroom hst hk hsz HD hhd hnc
  go_enter Try.func26, Try.ntmps26
  go_wp2_with
    (first
    | ((go_at_call 50; refine (NDD.out _).mono ?_; rintro e w' ⟨rfl, rfl⟩))
    | ((go_at_call 46; refine RM2.out.mono ?_; rintro e w' ⟨vc', φ', cells', stack', pins', rfl, hH, hR, hle, hch, hwi⟩; rw [if_pos HRM.out];
            obtain ⟨co, ccap, rfl, hcc, hcm, _, _⟩ := hH.rc.form; rw [ints_length] at hcc hH hwi; have d1 := hH.c1; have d2 := hH.c2; have f1 := hH.fr 1; have HH := Lib.hid hH; have HR := Lib.hid hR; have HL := Lib.hid hle; have HC := Lib.hid hch; have HW := Lib.hid hwi; clear hH hR hle hch hwi))
    | (at_builtin; (refine wpList_app _ rfl _ _ 44 rfl 3 (.int .i64 0) 8 Try.underlying44 info3 rfl (.slice co cells'.length ccap) (ints cells') rfl (World.ownsRow.alloc HH.out.rc _) ⟨w'.heap.size, 0, none⟩ 1 1 [.int .i64 _] rfl (by omega) rfl (cell_one_new _ _ _) (ints_oneCell .i64 [_]) (by rw [ints_length]; have := HR.out.room; omega) (by omega) ?_; intro g cap w1 hr1 hg1 hl1; have hd1 := HH.out.cellsApp_hdr hg1; have f1' := hdr_free hd1 1; have e1 := hdr_cell1 hd1; have e2 := hdr_cell2 hd1; clear hd1)))
  obtain ⟨news, hnews⟩ : ∃ news, news = pack s.data.toList.length s.data.toList := ⟨_, rfl⟩
  obtain ⟨base, hbase⟩ : ∃ base, base = cells' ++ [hd] := ⟨_, rfl⟩
  have HM := Lib.hid (makeLoop_start (news := news) HH.out HC.out HW.out hg1 hr1 hl1)
  have hnl : news.length = nc := by rw [hnews, length_pack _ _ (Nat.le_refl _), HSZ.out, HNC.out]
  have HNL := Lib.hid hnl
  rw [hnl, ← hbase] at HM
  have hbl : base.length = cells'.length + 1 := by rw [hbase, List.length_append]; rfl
  have HBL := Lib.hid hbl
  have HBS := Lib.hid hbase
  have HNW := Lib.hid hnews
  have HR0 : Hid (RawLoop w p bp np vc (.slice ao A.stack.length scap) A.limit base stack' news pins' nc (.int .i64 0) (w1.setCell ⟨p, 1, none⟩ (.slice (some ⟨g, 0, none⟩) ((ints cells').length + 1) cap))) := ⟨0, rfl, HM.out⟩
  clear hnl hbl hbase hg1 hr1 hl1 e1 e2 f1 d1 d2 HM hnews f1' hor
  go_loopg [10] nc (fun k s wr => RawLoop w p bp np vc (.slice ao A.stack.length scap) A.limit base stack' news pins' k s wr)
  case atStart => exact HR0.out
  case round =>
    clear HR0
    obtain ⟨i, rfl, i', vc2, hik, he, hH, hch, hwi⟩ := hrel
    obtain rfl : i' = i := by injection he with _ e; omega
    clear he
    rw [HNL.out] at hik
    have HH2 := Lib.hid hH
    have HC2 := Lib.hid hch
    have HW2 := Lib.hid hwi
    clear hH hch hwi
    by_cases hlt : i' < nc
    · have hlt8 : 8 * i' < s.size := by have := HNC.out; omega
      by_cases hmin : 8 * i' + 8 ≤ s.size
      · have hm1 : ¬ (s.size : Int) - 8 * (i' : Int) < 8 := by omega
        go_wp2
        go_loopg [11, 63] 8 (fun k s1 s2 w2 => w2 = wr ∧ ByteLoop s.data.toList i' 8 k s1 s2)
        case atStart => exact ⟨rfl, 0, rfl, by omega, rfl⟩
        case round =>
          obtain ⟨rfl, j, rfl, hjk, rfl⟩ := hrel
          by_cases hlj : j < 8
          · have hix : 8 * i' + j < s.size := by omega
            have hj0 : 0 ≤ (8 : Int) * (i' : Int) + (j : Int) := by omega
            have hj1 : (8 : Int) * (i' : Int) + (j : Int) < (s.size : Int) := by omega
            have hj2 : ((8 : Int) * (i' : Int) + (j : Int)).toNat = 8 * i' + j := by omega
            have hj3 : (j : Int) < 8 := by omega
            have HST2 := Lib.hid (raw_step s.data.toList i' j s[8 * i' + j] (by omega) (by rw [List.getElem?_eq_getElem (by simpa using hix)]; rfl))
            go_wp2
            go_roundg (gk - 1)
            case measure => omega
            case rel => exact ⟨rfl, j + 1, by go_num, by omega, by first | rw [HST2.out] | (rw [← HST2.out])⟩
          · obtain rfl : j = 8 := by omega
            have hce := chunk_end s.data.toList i' 8 (by first | exact .inl rfl | (right; simp; omega)) (by omega)
            rw [hce]
            have HX := Lib.hid (pack_get s.data.toList.length s.data.toList i' (Nat.le_refl _) (by simpa using hlt8))
            have hsg : wrap64 (packOne (chunk s.data.toList i')) = signed64 (packOne (chunk s.data.toList i')) := by unfold wrap64 signed64; omega
            have c1 := HH2.out.c1
            have hn7 : nc ≤ 4194304 := by omega
            clear hce
            go_wp2_with (at_builtin; (refine wpList_app _ rfl _ _ 44 rfl 3 (.int .i64 0) 8 Try.underlying44 info3 rfl vc2 _ rfl (World.ownsRow.alloc HH2.out.rc _) ⟨wr.heap.size, 0, none⟩ 1 1 [.int .i64 _] rfl (by omega) rfl (cell_one_new _ _ _) (ints_oneCell .i64 [_]) (by rw [ints_length, List.length_append, List.length_take, HBL.out]; have := HR.out.room; omega) (by omega) ?_; intro g2 cap2 w2 hr2 hg2 hl2; have hd2 := HH2.out.cellsApp_hdr hg2; have f2' := hdr_free hd2 1; have e1' := hdr_cell1 hd2; clear hd2))
            go_roundg (nc - i' - 1)
            case measure => omega
            case rel => exact rawLoop_next HH2.out HC2.out HW2.out (by rw [HNW.out]; exact HX.out) (by rw [HNL.out]; omega) hg2 hr2 hl2
      · obtain ⟨n, hn⟩ : ∃ n : Nat, (s.size : Int) - 8 * (i' : Int) = (n : Int) := ⟨s.size - 8 * i', by omega⟩
        have hm1 : (n : Int) < 8 := by omega
        go_wp2
        go_loopg [11, 63] n (fun k s1 s2 w2 => w2 = wr ∧ ByteLoop s.data.toList i' n k s1 s2)
        case atStart => exact ⟨rfl, 0, rfl, by omega, rfl⟩
        case round =>
          obtain ⟨rfl, j, rfl, hjk, rfl⟩ := hrel
          by_cases hlj : j < n
          · have hix : 8 * i' + j < s.size := by omega
            have hj0 : 0 ≤ (8 : Int) * (i' : Int) + (j : Int) := by omega
            have hj1 : (8 : Int) * (i' : Int) + (j : Int) < (s.size : Int) := by omega
            have hj2 : ((8 : Int) * (i' : Int) + (j : Int)).toNat = 8 * i' + j := by omega
            have hj3 : (j : Int) < 8 := by omega
            have HST2 := Lib.hid (raw_step s.data.toList i' j s[8 * i' + j] (by omega) (by rw [List.getElem?_eq_getElem (by simpa using hix)]; rfl))
            go_wp2
            go_roundg (gk - 1)
            case measure => omega
            case rel => exact ⟨rfl, j + 1, by go_num, by omega, by first | rw [HST2.out] | (rw [← HST2.out])⟩
          · obtain rfl : n = j := by omega
            have hce := chunk_end s.data.toList i' n (by first | exact .inl rfl | (right; simp; omega)) (by omega)
            rw [hce]
            have HX := Lib.hid (pack_get s.data.toList.length s.data.toList i' (Nat.le_refl _) (by simpa using hlt8))
            have hsg : wrap64 (packOne (chunk s.data.toList i')) = signed64 (packOne (chunk s.data.toList i')) := by unfold wrap64 signed64; omega
            have c1 := HH2.out.c1
            have hn7 : nc ≤ 4194304 := by omega
            clear hce
            go_wp2_with (at_builtin; (refine wpList_app _ rfl _ _ 44 rfl 3 (.int .i64 0) 8 Try.underlying44 info3 rfl vc2 _ rfl (World.ownsRow.alloc HH2.out.rc _) ⟨wr.heap.size, 0, none⟩ 1 1 [.int .i64 _] rfl (by omega) rfl (cell_one_new _ _ _) (ints_oneCell .i64 [_]) (by rw [ints_length, List.length_append, List.length_take, HBL.out]; have := HR.out.room; omega) (by omega) ?_; intro g2 cap2 w2 hr2 hg2 hl2; have hd2 := HH2.out.cellsApp_hdr hg2; have f2' := hdr_free hd2 1; have e1' := hdr_cell1 hd2; clear hd2))
            go_roundg (nc - i' - 1)
            case measure => omega
            case rel => exact rawLoop_next HH2.out HC2.out HW2.out (by rw [HNW.out]; exact HX.out) (by rw [HNL.out]; omega) hg2 hr2 hl2
    · obtain rfl : i' = nc := by omega
      have ht : news.take i' = news := List.take_of_length_le (by rw [HNL.out]; exact Nat.le_refl _)
      rw [ht] at HH2
      have hge : ¬ (8 : Int) * (i' : Int) < (s.size : Int) := by have := HNC.out; omega
      have c2' := HH2.out.c2
      have f2 := HH2.out.fr 2
      have hcm2 := hcm
      have HRS := Lib.hid (HH2.out.rs.chg ((Chg.refl [] wr).drewN 1) (by simp))
      have HSL : Hid (stack'.length = A.stack.length) := by show _ = _; rw [HR.out.stack, List.length_map]
      have hb9 : 0 ≤ (cells'.length : Int) := by omega
      have hb10 : (cells'.length : Int) ≤ 4194304 := by have := HR.out.room; omega
      have a2 := fun o => (HH2.out.alloc o).c2
      clear ht
      go_wp2
      go_region_law (first
        | (refine step_app (by rfl) _ _ 74 rfl 22 (.int .i64 0) 8 Try.underlying74 infoW rfl _ (ints stack') (by rfl) (World.ownsRow.alloc HRS.out _) ⟨wr.heap.size, 0, none⟩ 1 1 [.int .i64 _] (by rfl) (by omega) rfl (cell_one_new _ _ _) (ints_oneCell .i64 [_]) (by rw [ints_length]; have := HST.out; have := HS.out; have := HSL.out; omega) (by omega) _ rfl ?_; intro g2 cap2 w2 hr2 hg2 hl2; have hd2 := (HH2.out.drewN 1).stackApp_hdr hg2; have f2' := hdr_free hd2 2; have e1' := hdr_cell2 hd2; clear hd2)
        | (refine step_call (by rfl) 47 #[.int .i64 cells'.length] _ (by go_simp) (object_any _ hb9 hb10 _) ?_))
      all_goals go_wp2
      all_goals go_ret
      all_goals
        refine put_end (φ := φ') (cells := cells') (low := stack'.length) (body := hd :: news) ?_ HR.out (fun r hr => by cases hr) ⟨HK.out, (fun _ => rfl), (fun h => by cases h)⟩ ?_
          rfl ?_ ?_ (HC2.out.drewN 1) HW2.out rfl hg2 (by rw [List.take_length]; exact hr2) hl2
        · rw [rawOb_size, HSZ.out, ← HNC.out]; exact HRM.out
        · rw [rawOb_size, HSZ.out, ← HNC.out]; exact HL.out HRM.out
        · rw [HNW.out, HHD.out]; unfold enc; rw [rawOb_head, HSZ.out]; rfl
        · have := HH2.out.drewN 1
          rw [HBS.out, List.append_assoc] at this
          exact this
end
end Go.Proofs.Ytlbiapgikkjooaa
