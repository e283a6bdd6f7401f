/- HeapMoves: cases 6, 7, 8, 10 of the switch. -/
import Derived.Test.YtlbiapgikkjooaaMvCs
namespace Go.Proofs.Ytlbiapgikkjooaa
open Go.RowKit Go.Maps Hp
set_option linter.unusedSectionVars false
set_option linter.unusedVariables false
set_option linter.unusedSimpArgs false
set_option maxRecDepth 100000 in
set_option maxHeartbeats 60000000 in
theorem mvcase6 {w5 wx : World} {p q nn i bx : Nat} {A : AH} {φ : Nat → Nat} {NN : Bd} {kind xn xk xm : Int} {text tt : ByteArray} {u1 u2 u3 u4 u5 u6 u8 u13 u14 u15 u16 u17 u18 u19 u20 u21 u22 u23 u24 u25 u26 u27 u28 u29 u30 u31 u32 u33 u34 u35 u36 u37 u38 u39 u40 u41 u42 u43 u44 u45 u46 u47 u48 u49 u50 u51 u52 u53 u54 u55 u56 u57 u58 u59 u60 u61 u62 u63 u64 u65 u66 u67 u68 u69 u70 u71 u72 u73 u74 u75 u76 u77 u78 u79 u80 u81 u82 u83 u84 u85 u86 u87 u88 u89 u90 u91 u92 u93 u94 u95 u96 u97 u98 u99 u100 u101 u102 u103 u104 u105 u106 u107 u108 u109 u110 u111 u112 u113 u114 u115 u116 u117 u119 u120 u121 u122 u123 u124 u125 u126 u127 u128 u129 u130 u131 u132 u133 u134 u135 u136 u137 u138 u139 u140 u141 u142 u143 u144 u145 u146 u147 u148 u149 u150 u151 u152 u153 u154 u155 u156 u157 u158 u159 u160 u161 u162 u163 u164 u165 u166 u167 u168 u169 u170 u171 u172 u173 u174 u175 u176 u177 u178 u179 u180 u181 u182 u183 u184 u185 u186 u187 u188 u189 u190 u191 u192 u193 u194 u195 u196 u197 u198 u199 u200 u201 u202 u203 u204 u205 u206 u207 u208 u209 u210 u211 u212 u213 u214 u215 u216 u217 u218 u219 u220 u221 u222 u223 u224 u225 u226 u227 u228 u229 u230 u231 u232 u233 u234 u235 u236 u237 u238 u239 u240 u241 u242 u243 u244 u245 u246 u247 u248 u249 u250 u251 u252 u253 u254 u255 u256 u257 u258 u259 u260 u261 u262 u263 u264 u265 u266 u267 u268 u269 u270 u271 u272 u273 u274 u275 u276 u277 u278 u279 u280 u281 u282 u283 u284 u285 u286 u287 u288 u289 u290 u291 u292 u293 u294 u295 u296 u297 u298 u299 u300 u301 u302 u303 u304 u305 u306 u307 u308 u309 u310 u311 u312 u313 u314 u315 u316 u317 u318 u319 u320 u321 u322 u323 u324 u325 u326 u327 u328 u329 u330 u331 u332 u333 u334 u335 u336 u337 u338 u339 u340 u341 u342 u343 u344 u345 u346 u347 u348 u349 u350 u351 u352 u353 u354 u355 u356 u357 u358 u359 u360 u361 u362 u363 u364 u365 u366 u367 u368 u369 u370 u371 u372 u373 u374 u375 u376 u377 u378 u379 u380 u381 u382 u383 u384 u385 u386 u387 : Value}
    (HLIM : Hid (A.limit = nn)) (HKW : Hid ((Lit.int .i64 xk).wf = true)) (HX : Hid (One NN w5 p q i i A wx)) (HNN : Hid (NN.n = w5.heap.size)) (HTT : Hid (tt.size ≤ 200)) (HI3 : Hid (i ≤ 1000 ∧ i < 1000000000)) (HWF : Hid A.Wf) (HSL : Hid (A.stack.length ≤ i ∧ A.limit ≤ 4194304))
    (z0 : wx.cell? ⟨bx, 0, none⟩ = some (.int .i64 (6 : Int)))    (z1 : wx.cell? ⟨bx, 1, none⟩ = some (.int .i64 kind))    (z2 : wx.cell? ⟨bx, 2, none⟩ = some (.int .i64 xn))    (z3 : wx.cell? ⟨bx, 3, none⟩ = some (.int .i64 xk))    (z4 : wx.cell? ⟨bx, 4, none⟩ = some (.int .i64 xm))    (z5 : wx.cell? ⟨bx, 5, none⟩ = some (.string text))
    (HD : Hid (Duo NN w5 p q A (List.map (word φ) A.stack) φ i i A wx)) (HNX : Hid (NN.x = some (bx, .cells #[.int .i64 (6 : Int), .int .i64 kind, .int .i64 xn, .int .i64 xk, .int .i64 xm, .string text] 62)))
    {J KP : Act → World → Prop} {Q0 : Exit → Act → World → Prop} (hK : ∀ c a a' w, Q0 (.panic c) a w → Q0 (.panic c) a' w) (HA1 : Hid (∀ a' w', MvR w5 p q nn i bx tt (6 : Int) u1 u2 u3 u5 u6 u8 u17 u18 u19 u20 u21 u22 u23 u24 u25 u26 u27 u28 u29 u30 u31 u32 u33 u34 u35 u36 u37 u38 u39 u40 u41 u42 u43 u44 u45 u46 u47 u48 u49 u50 u51 u52 u53 u54 u55 u56 u57 u58 u59 u60 u61 u62 u63 u64 u65 u66 u67 u68 u69 u70 u71 u72 u73 u74 u75 u76 u77 u78 u79 u80 u81 u82 u83 u84 u85 u86 u87 u88 u89 u90 u91 u92 u93 u94 u95 u378 u379 u380 u381 u382 u383 u384 u385 u386 u387 a' w' → J a' w')) (A0 : ∀ a' w', Met J a' w' → KP a' w') :
    Code.wp Try.prog swc (Exit.then KP Q0) { tmps := #[.int .i64 (nn : Int), u1, u2, u3, u4, u5, u6, .pointer (some ⟨p, 0, none⟩), u8, .pointer (some ⟨q, 0, none⟩), .int .i64 (i : Int), .pointer (some ⟨bx, 0, none⟩), .string tt, u13, u14, u15, u16, u17, u18, u19, u20, u21, u22, u23, u24, u25, u26, u27, u28, u29, u30, u31, u32, u33, u34, u35, u36, u37, u38, u39, u40, u41, u42, u43, u44, u45, u46, u47, u48, u49, u50, u51, u52, u53, u54, u55, u56, u57, u58, u59, u60, u61, u62, u63, u64, u65, u66, u67, u68, u69, u70, u71, u72, u73, u74, u75, u76, u77, u78, u79, u80, u81, u82, u83, u84, u85, u86, u87, u88, u89, u90, u91, u92, u93, u94, u95, u96, u97, u98, u99, u100, u101, u102, u103, u104, u105, u106, u107, u108, u109, u110, u111, u112, u113, u114, u115, u116, u117, .int .i64 (6 : Int), u119, u120, u121, u122, u123, u124, u125, u126, u127, u128, u129, u130, u131, u132, u133, u134, u135, u136, u137, u138, u139, u140, u141, u142, u143, u144, u145, u146, u147, u148, u149, u150, u151, u152, u153, u154, u155, u156, u157, u158, u159, u160, u161, u162, u163, u164, u165, u166, u167, u168, u169, u170, u171, u172, u173, u174, u175, u176, u177, u178, u179, u180, u181, u182, u183, u184, u185, u186, u187, u188, u189, u190, u191, u192, u193, u194, u195, u196, u197, u198, u199, u200, u201, u202, u203, u204, u205, u206, u207, u208, u209, u210, u211, u212, u213, u214, u215, u216, u217, u218, u219, u220, u221, u222, u223, u224, u225, u226, u227, u228, u229, u230, u231, u232, u233, u234, u235, u236, u237, u238, u239, u240, u241, u242, u243, u244, u245, u246, u247, u248, u249, u250, u251, u252, u253, u254, u255, u256, u257, u258, u259, u260, u261, u262, u263, u264, u265, u266, u267, u268, u269, u270, u271, u272, u273, u274, u275, u276, u277, u278, u279, u280, u281, u282, u283, u284, u285, u286, u287, u288, u289, u290, u291, u292, u293, u294, u295, u296, u297, u298, u299, u300, u301, u302, u303, u304, u305, u306, u307, u308, u309, u310, u311, u312, u313, u314, u315, u316, u317, u318, u319, u320, u321, u322, u323, u324, u325, u326, u327, u328, u329, u330, u331, u332, u333, u334, u335, u336, u337, u338, u339, u340, u341, u342, u343, u344, u345, u346, u347, u348, u349, u350, u351, u352, u353, u354, u355, u356, u357, u358, u359, u360, u361, u362, u363, u364, u365, u366, u367, u368, u369, u370, u371, u372, u373, u374, u375, u376, u377, u378, u379, u380, u381, u382, u383, u384, u385, u386, u387], defers := [] } wx := by
  have i0 : (0 : Int) ≤ (i : Int) := by omega
  conv => arg 2; whnf
  have TP := Lib.hid (tp_any HD.out)
  have OK := Lib.hid (fun k => topI_ok HWF.out k)
  go_wp2
  go_region_held3 (fun w' => w'.cell? ⟨bx, 2, none⟩ = some (.int .i64 xn) ∧ w'.cell? ⟨bx, 3, none⟩ = some (.int .i64 xk) ∧ w'.cell? ⟨bx, 4, none⟩ = some (.int .i64 xm)) (go_keep)
    (first
    | (go_at_call 21; refine (TP.out _ _ (below_drew (Below.refl _ _))).mono ?_; rintro e w7 ⟨rfl, hb7⟩; obtain ⟨y0, y1, y2, y3, y4, y5, yb⟩ := box6 ((HD.out.later hb7).box HNX.out); have HB7 := Lib.hid hb7; clear hb7; dsimp only)
    | (go_at_call 21; refine (TP.out _ _ HB7.out).mono ?_; rintro e w8 ⟨rfl, hb8⟩; obtain ⟨v0, v1, v2, v3, v4, v5, vb⟩ := box6 ((HD.out.later hb8).box HNX.out); have HB8 := Lib.hid hb8; clear hb8; dsimp only)
    | (go_at_call 23; refine (duo_set (HD.out.later HB8.out) (OK.out _) _ (OK.out _)).mono ?_; rintro e w9 ⟨rfl, hd9⟩; obtain ⟨t0, t1, t2, t3, t4, t5, tb⟩ := box6 (hd9.box HNX.out); have HD9 := Lib.hid hd9; clear hd9; dsimp only))
  all_goals
    have RT := Lib.hid (rt_any HD9.out HI3.out.1)
    have RS := Lib.hid (fun W hW => duo_rset (x := A.topI xm) (r := A.topI xn) (i := xk) (HD9.out.later (w' := W) hW) (by have := HI3.out; omega) (ok_there HWF.out (OK.out xn)))
    go_wp2
    go_region_held3 (fun w' => w'.cell? ⟨bx, 2, none⟩ = some (.int .i64 xn) ∧ w'.cell? ⟨bx, 3, none⟩ = some (.int .i64 xk) ∧ w'.cell? ⟨bx, 4, none⟩ = some (.int .i64 xm)) (go_keep)
      (first
      | (go_at_call 35; refine (RT.out _ _ (below_drew (Below.refl _ _))).mono ?_; rintro e w10 ⟨rfl, hb10⟩; obtain ⟨s0, s1, s2, s3, s4, s5, sb⟩ := box6 ((HD9.out.later hb10).box HNX.out); have HB10 := Lib.hid hb10; clear hb10; dsimp only)
      | (go_at_call 35; refine (RT.out _ _ HB10.out).mono ?_; rintro e w11 ⟨rfl, hb11⟩; obtain ⟨r0, r1, r2, r3, r4, r5, rb⟩ := box6 ((HD9.out.later hb11).box HNX.out); have HB11 := Lib.hid hb11; clear hb11; dsimp only)
      | (go_at_call 37; refine (RS.out _ HB11.out).mono ?_; rintro e w12 ⟨rfl, hd12⟩; obtain ⟨p0, p1, p2, p3, p4, p5, pb⟩ := box6 (hd12.box HNX.out); have HD12 := Lib.hid hd12; clear hd12; dsimp only))
    all_goals
      go_wp2
      refine Met.intro ?_
      refine HA1.out _ _ ?_
      unfold MvR
      refine ⟨_, _, _, _, _, _, _, _, _, _, _, _, _, _, _, _, _, _, _, _, _, _, _, _, _, _, _, _, _, _, _, _, _, _, _, _, _, _, _, _, _, _, _, _, _, _, _, _, _, _, _, _, _, _, _, _, _, _, _, _, _, _, _, _, _, _, _, _, _, _, _, _, _, _, _, _, _, _, _, _, _, _, _, _, _, _, _, _, _, _, _, _, _, _, _, _, _, _, _, _, _, _, _, _, _, _, _, _, _, _, _, _, _, _, _, _, _, _, _, _, _, _, _, _, _, _, _, _, _, _, _, _, _, _, _, _, _, _, _, _, _, _, _, _, _, _, _, _, _, _, _, _, _, _, _, _, _, _, _, _, _, _, _, _, _, _, _, _, _, _, _, _, _, _, _, _, _, _, _, _, _, _, _, _, _, _, _, _, _, _, _, _, _, _, _, _, _, _, _, _, _, _, _, _, _, _, _, _, _, _, _, _, _, _, _, _, _, _, _, _, _, _, _, _, _, _, _, _, _, _, _, _, _, _, _, _, _, _, _, _, _, _, _, _, _, _, _, _, _, _, _, _, _, _, _, _, _, _, _, _, _, _, _, _, _, _, _, _, _, _, _, _, _, _, _, _, _, _, _, _, _, _, _, _, _, _, ?_, rfl⟩
      have := mv_next (n := nn) (i := i) HD12.out rfl (by rw [← HLIM.out]; unfold AH.setI AH.setField; split <;> rfl) (by omega) (by omega)
      rwa [HNN.out] at this
set_option maxRecDepth 100000 in
set_option maxHeartbeats 60000000 in
theorem mvcase7 {w5 wx : World} {p q nn i bx : Nat} {A : AH} {φ : Nat → Nat} {NN : Bd} {kind xn xk xm : Int} {text tt : ByteArray} {u1 u2 u3 u4 u5 u6 u8 u13 u14 u15 u16 u17 u18 u19 u20 u21 u22 u23 u24 u25 u26 u27 u28 u29 u30 u31 u32 u33 u34 u35 u36 u37 u38 u39 u40 u41 u42 u43 u44 u45 u46 u47 u48 u49 u50 u51 u52 u53 u54 u55 u56 u57 u58 u59 u60 u61 u62 u63 u64 u65 u66 u67 u68 u69 u70 u71 u72 u73 u74 u75 u76 u77 u78 u79 u80 u81 u82 u83 u84 u85 u86 u87 u88 u89 u90 u91 u92 u93 u94 u95 u96 u97 u98 u99 u100 u101 u102 u103 u104 u105 u106 u107 u108 u109 u110 u111 u112 u113 u114 u115 u116 u117 u119 u120 u121 u122 u123 u124 u125 u126 u127 u128 u129 u130 u131 u132 u133 u134 u135 u136 u137 u138 u139 u140 u141 u142 u143 u144 u145 u146 u147 u148 u149 u150 u151 u152 u153 u154 u155 u156 u157 u158 u159 u160 u161 u162 u163 u164 u165 u166 u167 u168 u169 u170 u171 u172 u173 u174 u175 u176 u177 u178 u179 u180 u181 u182 u183 u184 u185 u186 u187 u188 u189 u190 u191 u192 u193 u194 u195 u196 u197 u198 u199 u200 u201 u202 u203 u204 u205 u206 u207 u208 u209 u210 u211 u212 u213 u214 u215 u216 u217 u218 u219 u220 u221 u222 u223 u224 u225 u226 u227 u228 u229 u230 u231 u232 u233 u234 u235 u236 u237 u238 u239 u240 u241 u242 u243 u244 u245 u246 u247 u248 u249 u250 u251 u252 u253 u254 u255 u256 u257 u258 u259 u260 u261 u262 u263 u264 u265 u266 u267 u268 u269 u270 u271 u272 u273 u274 u275 u276 u277 u278 u279 u280 u281 u282 u283 u284 u285 u286 u287 u288 u289 u290 u291 u292 u293 u294 u295 u296 u297 u298 u299 u300 u301 u302 u303 u304 u305 u306 u307 u308 u309 u310 u311 u312 u313 u314 u315 u316 u317 u318 u319 u320 u321 u322 u323 u324 u325 u326 u327 u328 u329 u330 u331 u332 u333 u334 u335 u336 u337 u338 u339 u340 u341 u342 u343 u344 u345 u346 u347 u348 u349 u350 u351 u352 u353 u354 u355 u356 u357 u358 u359 u360 u361 u362 u363 u364 u365 u366 u367 u368 u369 u370 u371 u372 u373 u374 u375 u376 u377 u378 u379 u380 u381 u382 u383 u384 u385 u386 u387 : Value}
    (HLIM : Hid (A.limit = nn)) (HKW : Hid ((Lit.int .i64 xk).wf = true)) (HX : Hid (One NN w5 p q i i A wx)) (HNN : Hid (NN.n = w5.heap.size)) (HTT : Hid (tt.size ≤ 200)) (HI3 : Hid (i ≤ 1000 ∧ i < 1000000000)) (HWF : Hid A.Wf) (HSL : Hid (A.stack.length ≤ i ∧ A.limit ≤ 4194304))
    (z0 : wx.cell? ⟨bx, 0, none⟩ = some (.int .i64 (7 : Int)))    (z1 : wx.cell? ⟨bx, 1, none⟩ = some (.int .i64 kind))    (z2 : wx.cell? ⟨bx, 2, none⟩ = some (.int .i64 xn))    (z3 : wx.cell? ⟨bx, 3, none⟩ = some (.int .i64 xk))    (z4 : wx.cell? ⟨bx, 4, none⟩ = some (.int .i64 xm))    (z5 : wx.cell? ⟨bx, 5, none⟩ = some (.string text))
    (HD : Hid (Duo NN w5 p q A (List.map (word φ) A.stack) φ i i A wx)) (HNX : Hid (NN.x = some (bx, .cells #[.int .i64 (7 : Int), .int .i64 kind, .int .i64 xn, .int .i64 xk, .int .i64 xm, .string text] 62)))
    {J KP : Act → World → Prop} {Q0 : Exit → Act → World → Prop} (hK : ∀ c a a' w, Q0 (.panic c) a w → Q0 (.panic c) a' w) (HA1 : Hid (∀ a' w', MvR w5 p q nn i bx tt (7 : Int) u1 u2 u3 u5 u6 u8 u17 u18 u19 u20 u21 u22 u23 u24 u25 u26 u27 u28 u29 u30 u31 u32 u33 u34 u35 u36 u37 u38 u39 u40 u41 u42 u43 u44 u45 u46 u47 u48 u49 u50 u51 u52 u53 u54 u55 u56 u57 u58 u59 u60 u61 u62 u63 u64 u65 u66 u67 u68 u69 u70 u71 u72 u73 u74 u75 u76 u77 u78 u79 u80 u81 u82 u83 u84 u85 u86 u87 u88 u89 u90 u91 u92 u93 u94 u95 u378 u379 u380 u381 u382 u383 u384 u385 u386 u387 a' w' → J a' w')) (A0 : ∀ a' w', Met J a' w' → KP a' w') :
    Code.wp Try.prog swc (Exit.then KP Q0) { tmps := #[.int .i64 (nn : Int), u1, u2, u3, u4, u5, u6, .pointer (some ⟨p, 0, none⟩), u8, .pointer (some ⟨q, 0, none⟩), .int .i64 (i : Int), .pointer (some ⟨bx, 0, none⟩), .string tt, u13, u14, u15, u16, u17, u18, u19, u20, u21, u22, u23, u24, u25, u26, u27, u28, u29, u30, u31, u32, u33, u34, u35, u36, u37, u38, u39, u40, u41, u42, u43, u44, u45, u46, u47, u48, u49, u50, u51, u52, u53, u54, u55, u56, u57, u58, u59, u60, u61, u62, u63, u64, u65, u66, u67, u68, u69, u70, u71, u72, u73, u74, u75, u76, u77, u78, u79, u80, u81, u82, u83, u84, u85, u86, u87, u88, u89, u90, u91, u92, u93, u94, u95, u96, u97, u98, u99, u100, u101, u102, u103, u104, u105, u106, u107, u108, u109, u110, u111, u112, u113, u114, u115, u116, u117, .int .i64 (7 : Int), u119, u120, u121, u122, u123, u124, u125, u126, u127, u128, u129, u130, u131, u132, u133, u134, u135, u136, u137, u138, u139, u140, u141, u142, u143, u144, u145, u146, u147, u148, u149, u150, u151, u152, u153, u154, u155, u156, u157, u158, u159, u160, u161, u162, u163, u164, u165, u166, u167, u168, u169, u170, u171, u172, u173, u174, u175, u176, u177, u178, u179, u180, u181, u182, u183, u184, u185, u186, u187, u188, u189, u190, u191, u192, u193, u194, u195, u196, u197, u198, u199, u200, u201, u202, u203, u204, u205, u206, u207, u208, u209, u210, u211, u212, u213, u214, u215, u216, u217, u218, u219, u220, u221, u222, u223, u224, u225, u226, u227, u228, u229, u230, u231, u232, u233, u234, u235, u236, u237, u238, u239, u240, u241, u242, u243, u244, u245, u246, u247, u248, u249, u250, u251, u252, u253, u254, u255, u256, u257, u258, u259, u260, u261, u262, u263, u264, u265, u266, u267, u268, u269, u270, u271, u272, u273, u274, u275, u276, u277, u278, u279, u280, u281, u282, u283, u284, u285, u286, u287, u288, u289, u290, u291, u292, u293, u294, u295, u296, u297, u298, u299, u300, u301, u302, u303, u304, u305, u306, u307, u308, u309, u310, u311, u312, u313, u314, u315, u316, u317, u318, u319, u320, u321, u322, u323, u324, u325, u326, u327, u328, u329, u330, u331, u332, u333, u334, u335, u336, u337, u338, u339, u340, u341, u342, u343, u344, u345, u346, u347, u348, u349, u350, u351, u352, u353, u354, u355, u356, u357, u358, u359, u360, u361, u362, u363, u364, u365, u366, u367, u368, u369, u370, u371, u372, u373, u374, u375, u376, u377, u378, u379, u380, u381, u382, u383, u384, u385, u386, u387], defers := [] } wx := by
  have i0 : (0 : Int) ≤ (i : Int) := by omega
  conv => arg 2; whnf
  go_wp2_with
    ((go_at_call 17; refine (duo_drop HD.out _).mono ?_; rintro e w8 ⟨rfl, hd8⟩; have hd9 := duo_dropped hd8; have HB8 := Lib.hid (hd9.box HNX.out); have HD8 := Lib.hid hd9; clear hd8 hd9; dsimp only))
  obtain ⟨v0, v1, v2, v3, v4, v5, hbz⟩ := box6 HB8.out
  obtain ⟨aS, s, cS, hsa⟩ := stack_at HD8.out
  have hsl : s ≤ 1000 := by have := hsa.len; have := HSL.out.1; have := HI3.out.1; omega
  have SA := Lib.hid hsa
  clear hsa
  go_wp2
  refine use_reg (c' := reg7) (by kernel_rfl) ?_
  refine cut7 (u9 := .int .i64 0) (u11 := .int .i64 0) (by exact fun _ _ _ _ h => hK _ _ _ _ h) hbz v2 SA hsl (fun t248 t249 t250 t251 t252 t253 t254 t255 t256 t257 t258 t259 t260 t261 t262 t263 t264 t265 t266 t267 t268 t269 t270 t271 t272 w9 hd9 => ?_)
  have HD9 := Lib.hid hd9
  clear hd9 SA
  go_wp2
  refine Met.intro ?_
  refine HA1.out _ _ ?_
  unfold MvR
  refine ⟨_, _, _, _, _, _, _, _, _, _, _, _, _, _, _, _, _, _, _, _, _, _, _, _, _, _, _, _, _, _, _, _, _, _, _, _, _, _, _, _, _, _, _, _, _, _, _, _, _, _, _, _, _, _, _, _, _, _, _, _, _, _, _, _, _, _, _, _, _, _, _, _, _, _, _, _, _, _, _, _, _, _, _, _, _, _, _, _, _, _, _, _, _, _, _, _, _, _, _, _, _, _, _, _, _, _, _, _, _, _, _, _, _, _, _, _, _, _, _, _, _, _, _, _, _, _, _, _, _, _, _, _, _, _, _, _, _, _, _, _, _, _, _, _, _, _, _, _, _, _, _, _, _, _, _, _, _, _, _, _, _, _, _, _, _, _, _, _, _, _, _, _, _, _, _, _, _, _, _, _, _, _, _, _, _, _, _, _, _, _, _, _, _, _, _, _, _, _, _, _, _, _, _, _, _, _, _, _, _, _, _, _, _, _, _, _, _, _, _, _, _, _, _, _, _, _, _, _, _, _, _, _, _, _, _, _, _, _, _, _, _, _, _, _, _, _, _, _, _, _, _, _, _, _, _, _, _, _, _, _, _, _, _, _, _, _, _, _, _, _, _, _, _, _, _, _, _, _, _, _, _, _, _, _, _, _, ?_, rfl⟩
  have := mv_next (n := nn) (i := i) HD9.out rfl HLIM.out (by omega) (by omega)
  rwa [HNN.out] at this
set_option maxRecDepth 100000 in
set_option maxHeartbeats 60000000 in
theorem mvcase8 {w5 wx : World} {p q nn i bx : Nat} {A : AH} {φ : Nat → Nat} {NN : Bd} {kind xn xk xm : Int} {text tt : ByteArray} {u1 u2 u3 u4 u5 u6 u8 u13 u14 u15 u16 u17 u18 u19 u20 u21 u22 u23 u24 u25 u26 u27 u28 u29 u30 u31 u32 u33 u34 u35 u36 u37 u38 u39 u40 u41 u42 u43 u44 u45 u46 u47 u48 u49 u50 u51 u52 u53 u54 u55 u56 u57 u58 u59 u60 u61 u62 u63 u64 u65 u66 u67 u68 u69 u70 u71 u72 u73 u74 u75 u76 u77 u78 u79 u80 u81 u82 u83 u84 u85 u86 u87 u88 u89 u90 u91 u92 u93 u94 u95 u96 u97 u98 u99 u100 u101 u102 u103 u104 u105 u106 u107 u108 u109 u110 u111 u112 u113 u114 u115 u116 u117 u119 u120 u121 u122 u123 u124 u125 u126 u127 u128 u129 u130 u131 u132 u133 u134 u135 u136 u137 u138 u139 u140 u141 u142 u143 u144 u145 u146 u147 u148 u149 u150 u151 u152 u153 u154 u155 u156 u157 u158 u159 u160 u161 u162 u163 u164 u165 u166 u167 u168 u169 u170 u171 u172 u173 u174 u175 u176 u177 u178 u179 u180 u181 u182 u183 u184 u185 u186 u187 u188 u189 u190 u191 u192 u193 u194 u195 u196 u197 u198 u199 u200 u201 u202 u203 u204 u205 u206 u207 u208 u209 u210 u211 u212 u213 u214 u215 u216 u217 u218 u219 u220 u221 u222 u223 u224 u225 u226 u227 u228 u229 u230 u231 u232 u233 u234 u235 u236 u237 u238 u239 u240 u241 u242 u243 u244 u245 u246 u247 u248 u249 u250 u251 u252 u253 u254 u255 u256 u257 u258 u259 u260 u261 u262 u263 u264 u265 u266 u267 u268 u269 u270 u271 u272 u273 u274 u275 u276 u277 u278 u279 u280 u281 u282 u283 u284 u285 u286 u287 u288 u289 u290 u291 u292 u293 u294 u295 u296 u297 u298 u299 u300 u301 u302 u303 u304 u305 u306 u307 u308 u309 u310 u311 u312 u313 u314 u315 u316 u317 u318 u319 u320 u321 u322 u323 u324 u325 u326 u327 u328 u329 u330 u331 u332 u333 u334 u335 u336 u337 u338 u339 u340 u341 u342 u343 u344 u345 u346 u347 u348 u349 u350 u351 u352 u353 u354 u355 u356 u357 u358 u359 u360 u361 u362 u363 u364 u365 u366 u367 u368 u369 u370 u371 u372 u373 u374 u375 u376 u377 u378 u379 u380 u381 u382 u383 u384 u385 u386 u387 : Value}
    (HLIM : Hid (A.limit = nn)) (HKW : Hid ((Lit.int .i64 xk).wf = true)) (HX : Hid (One NN w5 p q i i A wx)) (HNN : Hid (NN.n = w5.heap.size)) (HTT : Hid (tt.size ≤ 200)) (HI3 : Hid (i ≤ 1000 ∧ i < 1000000000)) (HWF : Hid A.Wf) (HSL : Hid (A.stack.length ≤ i ∧ A.limit ≤ 4194304))
    (z0 : wx.cell? ⟨bx, 0, none⟩ = some (.int .i64 (8 : Int)))    (z1 : wx.cell? ⟨bx, 1, none⟩ = some (.int .i64 kind))    (z2 : wx.cell? ⟨bx, 2, none⟩ = some (.int .i64 xn))    (z3 : wx.cell? ⟨bx, 3, none⟩ = some (.int .i64 xk))    (z4 : wx.cell? ⟨bx, 4, none⟩ = some (.int .i64 xm))    (z5 : wx.cell? ⟨bx, 5, none⟩ = some (.string text))
    (HD : Hid (Duo NN w5 p q A (List.map (word φ) A.stack) φ i i A wx)) (HNX : Hid (NN.x = some (bx, .cells #[.int .i64 (8 : Int), .int .i64 kind, .int .i64 xn, .int .i64 xk, .int .i64 xm, .string text] 62)))
    {J KP : Act → World → Prop} {Q0 : Exit → Act → World → Prop} (hK : ∀ c a a' w, Q0 (.panic c) a w → Q0 (.panic c) a' w) (HA1 : Hid (∀ a' w', MvR w5 p q nn i bx tt (8 : Int) u1 u2 u3 u5 u6 u8 u17 u18 u19 u20 u21 u22 u23 u24 u25 u26 u27 u28 u29 u30 u31 u32 u33 u34 u35 u36 u37 u38 u39 u40 u41 u42 u43 u44 u45 u46 u47 u48 u49 u50 u51 u52 u53 u54 u55 u56 u57 u58 u59 u60 u61 u62 u63 u64 u65 u66 u67 u68 u69 u70 u71 u72 u73 u74 u75 u76 u77 u78 u79 u80 u81 u82 u83 u84 u85 u86 u87 u88 u89 u90 u91 u92 u93 u94 u95 u378 u379 u380 u381 u382 u383 u384 u385 u386 u387 a' w' → J a' w')) (A0 : ∀ a' w', Met J a' w' → KP a' w') :
    Code.wp Try.prog swc (Exit.then KP Q0) { tmps := #[.int .i64 (nn : Int), u1, u2, u3, u4, u5, u6, .pointer (some ⟨p, 0, none⟩), u8, .pointer (some ⟨q, 0, none⟩), .int .i64 (i : Int), .pointer (some ⟨bx, 0, none⟩), .string tt, u13, u14, u15, u16, u17, u18, u19, u20, u21, u22, u23, u24, u25, u26, u27, u28, u29, u30, u31, u32, u33, u34, u35, u36, u37, u38, u39, u40, u41, u42, u43, u44, u45, u46, u47, u48, u49, u50, u51, u52, u53, u54, u55, u56, u57, u58, u59, u60, u61, u62, u63, u64, u65, u66, u67, u68, u69, u70, u71, u72, u73, u74, u75, u76, u77, u78, u79, u80, u81, u82, u83, u84, u85, u86, u87, u88, u89, u90, u91, u92, u93, u94, u95, u96, u97, u98, u99, u100, u101, u102, u103, u104, u105, u106, u107, u108, u109, u110, u111, u112, u113, u114, u115, u116, u117, .int .i64 (8 : Int), u119, u120, u121, u122, u123, u124, u125, u126, u127, u128, u129, u130, u131, u132, u133, u134, u135, u136, u137, u138, u139, u140, u141, u142, u143, u144, u145, u146, u147, u148, u149, u150, u151, u152, u153, u154, u155, u156, u157, u158, u159, u160, u161, u162, u163, u164, u165, u166, u167, u168, u169, u170, u171, u172, u173, u174, u175, u176, u177, u178, u179, u180, u181, u182, u183, u184, u185, u186, u187, u188, u189, u190, u191, u192, u193, u194, u195, u196, u197, u198, u199, u200, u201, u202, u203, u204, u205, u206, u207, u208, u209, u210, u211, u212, u213, u214, u215, u216, u217, u218, u219, u220, u221, u222, u223, u224, u225, u226, u227, u228, u229, u230, u231, u232, u233, u234, u235, u236, u237, u238, u239, u240, u241, u242, u243, u244, u245, u246, u247, u248, u249, u250, u251, u252, u253, u254, u255, u256, u257, u258, u259, u260, u261, u262, u263, u264, u265, u266, u267, u268, u269, u270, u271, u272, u273, u274, u275, u276, u277, u278, u279, u280, u281, u282, u283, u284, u285, u286, u287, u288, u289, u290, u291, u292, u293, u294, u295, u296, u297, u298, u299, u300, u301, u302, u303, u304, u305, u306, u307, u308, u309, u310, u311, u312, u313, u314, u315, u316, u317, u318, u319, u320, u321, u322, u323, u324, u325, u326, u327, u328, u329, u330, u331, u332, u333, u334, u335, u336, u337, u338, u339, u340, u341, u342, u343, u344, u345, u346, u347, u348, u349, u350, u351, u352, u353, u354, u355, u356, u357, u358, u359, u360, u361, u362, u363, u364, u365, u366, u367, u368, u369, u370, u371, u372, u373, u374, u375, u376, u377, u378, u379, u380, u381, u382, u383, u384, u385, u386, u387], defers := [] } wx := by
  have i0 : (0 : Int) ≤ (i : Int) := by omega
  conv => arg 2; whnf
  have PP : Hid (Calls Try.prog 27 #[.pointer (some ⟨p, 0, none⟩)] wx fun e w' => e = .returned (.int .i64 (word φ (A.topI 0))) ∧ Duo NN w5 p q A ((A.stack.map (word φ)).take ((A.stack.map (word φ)).length - 1)) φ i i A w') := by
    have h := duo_pop HD.out
    rw [topOf_word rfl] at h
    exact h
  have OK := Lib.hid (topI_ok HWF.out 0)
  go_wp2_with
    (first
    | (go_at_call 27; refine PP.out.mono ?_; rintro e w6 ⟨rfl, hd6⟩; have HD6 := Lib.hid hd6; clear hd6; dsimp only)
    | (go_at_call 35; refine (rt_any HD6.out HI3.out.1 _ _ (Below.refl _ _)).mono ?_; rintro e w7 ⟨rfl, hb7⟩; have HD7 := Lib.hid (HD6.out.later hb7); clear hb7; dsimp only)
    | (go_at_call 38; refine (alike_any (by have := HI3.out; omega) rfl (duo_phi HD7.out) 2 _ (by omega) HD7.out (A.topI 0) OK.out).mono ?_; rintro e w8 ⟨rfl, hb8⟩; have hd9 := duo_dropped (HD7.out.later hb8); have HD8 := Lib.hid hd9; clear hb8 hd9; dsimp only))
  obtain ⟨aS, s, cS, hsa⟩ := stack_at HD8.out
  have hsl : s ≤ 1000 := by have := hsa.len; have := HSL.out.1; have := HI3.out.1; omega
  have SA := Lib.hid hsa
  clear hsa
  go_wp2
  refine use_reg (c' := reg8) (by kernel_rfl) ?_
  refine cut8 (u9 := .int .i64 0) (by exact fun _ _ _ _ h => hK _ _ _ _ h) SA hsl (fun t283 t284 t285 t286 t287 t288 t289 t290 t291 t292 t293 t294 t295 t296 t297 t298 t299 w9 hd9 => ?_)
  have HD9 := Lib.hid hd9
  clear hd9 SA
  go_wp2
  refine Met.intro ?_
  refine HA1.out _ _ ?_
  unfold MvR
  refine ⟨_, _, _, _, _, _, _, _, _, _, _, _, _, _, _, _, _, _, _, _, _, _, _, _, _, _, _, _, _, _, _, _, _, _, _, _, _, _, _, _, _, _, _, _, _, _, _, _, _, _, _, _, _, _, _, _, _, _, _, _, _, _, _, _, _, _, _, _, _, _, _, _, _, _, _, _, _, _, _, _, _, _, _, _, _, _, _, _, _, _, _, _, _, _, _, _, _, _, _, _, _, _, _, _, _, _, _, _, _, _, _, _, _, _, _, _, _, _, _, _, _, _, _, _, _, _, _, _, _, _, _, _, _, _, _, _, _, _, _, _, _, _, _, _, _, _, _, _, _, _, _, _, _, _, _, _, _, _, _, _, _, _, _, _, _, _, _, _, _, _, _, _, _, _, _, _, _, _, _, _, _, _, _, _, _, _, _, _, _, _, _, _, _, _, _, _, _, _, _, _, _, _, _, _, _, _, _, _, _, _, _, _, _, _, _, _, _, _, _, _, _, _, _, _, _, _, _, _, _, _, _, _, _, _, _, _, _, _, _, _, _, _, _, _, _, _, _, _, _, _, _, _, _, _, _, _, _, _, _, _, _, _, _, _, _, _, _, _, _, _, _, _, _, _, _, _, _, _, _, _, _, _, _, _, _, _, ?_, rfl⟩
  have := mv_next (n := nn) (i := i) HD9.out rfl HLIM.out (by omega) (by omega)
  rwa [HNN.out] at this
set_option maxRecDepth 100000 in
set_option maxHeartbeats 60000000 in
theorem mvcase10 {w5 wx : World} {p q nn i bx : Nat} {A : AH} {φ : Nat → Nat} {NN : Bd} {kind xn xk xm : Int} {text tt : ByteArray} {u1 u2 u3 u4 u5 u6 u8 u13 u14 u15 u16 u17 u18 u19 u20 u21 u22 u23 u24 u25 u26 u27 u28 u29 u30 u31 u32 u33 u34 u35 u36 u37 u38 u39 u40 u41 u42 u43 u44 u45 u46 u47 u48 u49 u50 u51 u52 u53 u54 u55 u56 u57 u58 u59 u60 u61 u62 u63 u64 u65 u66 u67 u68 u69 u70 u71 u72 u73 u74 u75 u76 u77 u78 u79 u80 u81 u82 u83 u84 u85 u86 u87 u88 u89 u90 u91 u92 u93 u94 u95 u96 u97 u98 u99 u100 u101 u102 u103 u104 u105 u106 u107 u108 u109 u110 u111 u112 u113 u114 u115 u116 u117 u119 u120 u121 u122 u123 u124 u125 u126 u127 u128 u129 u130 u131 u132 u133 u134 u135 u136 u137 u138 u139 u140 u141 u142 u143 u144 u145 u146 u147 u148 u149 u150 u151 u152 u153 u154 u155 u156 u157 u158 u159 u160 u161 u162 u163 u164 u165 u166 u167 u168 u169 u170 u171 u172 u173 u174 u175 u176 u177 u178 u179 u180 u181 u182 u183 u184 u185 u186 u187 u188 u189 u190 u191 u192 u193 u194 u195 u196 u197 u198 u199 u200 u201 u202 u203 u204 u205 u206 u207 u208 u209 u210 u211 u212 u213 u214 u215 u216 u217 u218 u219 u220 u221 u222 u223 u224 u225 u226 u227 u228 u229 u230 u231 u232 u233 u234 u235 u236 u237 u238 u239 u240 u241 u242 u243 u244 u245 u246 u247 u248 u249 u250 u251 u252 u253 u254 u255 u256 u257 u258 u259 u260 u261 u262 u263 u264 u265 u266 u267 u268 u269 u270 u271 u272 u273 u274 u275 u276 u277 u278 u279 u280 u281 u282 u283 u284 u285 u286 u287 u288 u289 u290 u291 u292 u293 u294 u295 u296 u297 u298 u299 u300 u301 u302 u303 u304 u305 u306 u307 u308 u309 u310 u311 u312 u313 u314 u315 u316 u317 u318 u319 u320 u321 u322 u323 u324 u325 u326 u327 u328 u329 u330 u331 u332 u333 u334 u335 u336 u337 u338 u339 u340 u341 u342 u343 u344 u345 u346 u347 u348 u349 u350 u351 u352 u353 u354 u355 u356 u357 u358 u359 u360 u361 u362 u363 u364 u365 u366 u367 u368 u369 u370 u371 u372 u373 u374 u375 u376 u377 u378 u379 u380 u381 u382 u383 u384 u385 u386 u387 : Value}
    (HLIM : Hid (A.limit = nn)) (HKW : Hid ((Lit.int .i64 xk).wf = true)) (HX : Hid (One NN w5 p q i i A wx)) (HNN : Hid (NN.n = w5.heap.size)) (HTT : Hid (tt.size ≤ 200)) (HI3 : Hid (i ≤ 1000 ∧ i < 1000000000)) (HWF : Hid A.Wf) (HSL : Hid (A.stack.length ≤ i ∧ A.limit ≤ 4194304))
    (z0 : wx.cell? ⟨bx, 0, none⟩ = some (.int .i64 (10 : Int)))    (z1 : wx.cell? ⟨bx, 1, none⟩ = some (.int .i64 kind))    (z2 : wx.cell? ⟨bx, 2, none⟩ = some (.int .i64 xn))    (z3 : wx.cell? ⟨bx, 3, none⟩ = some (.int .i64 xk))    (z4 : wx.cell? ⟨bx, 4, none⟩ = some (.int .i64 xm))    (z5 : wx.cell? ⟨bx, 5, none⟩ = some (.string text))
    (HD : Hid (Duo NN w5 p q A (List.map (word φ) A.stack) φ i i A wx)) (HNX : Hid (NN.x = some (bx, .cells #[.int .i64 (10 : Int), .int .i64 kind, .int .i64 xn, .int .i64 xk, .int .i64 xm, .string text] 62)))
    {J KP : Act → World → Prop} {Q0 : Exit → Act → World → Prop} (hK : ∀ c a a' w, Q0 (.panic c) a w → Q0 (.panic c) a' w) (HA1 : Hid (∀ a' w', MvR w5 p q nn i bx tt (10 : Int) u1 u2 u3 u5 u6 u8 u17 u18 u19 u20 u21 u22 u23 u24 u25 u26 u27 u28 u29 u30 u31 u32 u33 u34 u35 u36 u37 u38 u39 u40 u41 u42 u43 u44 u45 u46 u47 u48 u49 u50 u51 u52 u53 u54 u55 u56 u57 u58 u59 u60 u61 u62 u63 u64 u65 u66 u67 u68 u69 u70 u71 u72 u73 u74 u75 u76 u77 u78 u79 u80 u81 u82 u83 u84 u85 u86 u87 u88 u89 u90 u91 u92 u93 u94 u95 u378 u379 u380 u381 u382 u383 u384 u385 u386 u387 a' w' → J a' w')) (A0 : ∀ a' w', Met J a' w' → KP a' w') :
    Code.wp Try.prog swc (Exit.then KP Q0) { tmps := #[.int .i64 (nn : Int), u1, u2, u3, u4, u5, u6, .pointer (some ⟨p, 0, none⟩), u8, .pointer (some ⟨q, 0, none⟩), .int .i64 (i : Int), .pointer (some ⟨bx, 0, none⟩), .string tt, u13, u14, u15, u16, u17, u18, u19, u20, u21, u22, u23, u24, u25, u26, u27, u28, u29, u30, u31, u32, u33, u34, u35, u36, u37, u38, u39, u40, u41, u42, u43, u44, u45, u46, u47, u48, u49, u50, u51, u52, u53, u54, u55, u56, u57, u58, u59, u60, u61, u62, u63, u64, u65, u66, u67, u68, u69, u70, u71, u72, u73, u74, u75, u76, u77, u78, u79, u80, u81, u82, u83, u84, u85, u86, u87, u88, u89, u90, u91, u92, u93, u94, u95, u96, u97, u98, u99, u100, u101, u102, u103, u104, u105, u106, u107, u108, u109, u110, u111, u112, u113, u114, u115, u116, u117, .int .i64 (10 : Int), u119, u120, u121, u122, u123, u124, u125, u126, u127, u128, u129, u130, u131, u132, u133, u134, u135, u136, u137, u138, u139, u140, u141, u142, u143, u144, u145, u146, u147, u148, u149, u150, u151, u152, u153, u154, u155, u156, u157, u158, u159, u160, u161, u162, u163, u164, u165, u166, u167, u168, u169, u170, u171, u172, u173, u174, u175, u176, u177, u178, u179, u180, u181, u182, u183, u184, u185, u186, u187, u188, u189, u190, u191, u192, u193, u194, u195, u196, u197, u198, u199, u200, u201, u202, u203, u204, u205, u206, u207, u208, u209, u210, u211, u212, u213, u214, u215, u216, u217, u218, u219, u220, u221, u222, u223, u224, u225, u226, u227, u228, u229, u230, u231, u232, u233, u234, u235, u236, u237, u238, u239, u240, u241, u242, u243, u244, u245, u246, u247, u248, u249, u250, u251, u252, u253, u254, u255, u256, u257, u258, u259, u260, u261, u262, u263, u264, u265, u266, u267, u268, u269, u270, u271, u272, u273, u274, u275, u276, u277, u278, u279, u280, u281, u282, u283, u284, u285, u286, u287, u288, u289, u290, u291, u292, u293, u294, u295, u296, u297, u298, u299, u300, u301, u302, u303, u304, u305, u306, u307, u308, u309, u310, u311, u312, u313, u314, u315, u316, u317, u318, u319, u320, u321, u322, u323, u324, u325, u326, u327, u328, u329, u330, u331, u332, u333, u334, u335, u336, u337, u338, u339, u340, u341, u342, u343, u344, u345, u346, u347, u348, u349, u350, u351, u352, u353, u354, u355, u356, u357, u358, u359, u360, u361, u362, u363, u364, u365, u366, u367, u368, u369, u370, u371, u372, u373, u374, u375, u376, u377, u378, u379, u380, u381, u382, u383, u384, u385, u386, u387], defers := [] } wx := by
  have i0 : (0 : Int) ≤ (i : Int) := by omega
  conv => arg 2; whnf
  cases hp : A.pins xk with
  | some r =>
    skip
    have OK : Hid (A.Ok r) := HWF.out.ok_root (.inr ⟨xk, hp⟩)
    have PN : Hid (Calls Try.prog 22 #[.pointer (some ⟨p, 0, none⟩), .int .i64 xk] wx fun e w' => e = .returned (.tuple #[.int .i64 (word φ r), .bool true]) ∧ wx = w') := by
      have h := duo_pinned HD.out HKW.out
      rw [hp] at h
      exact h
    have RP : Hid (Calls Try.prog 40 #[.pointer (some ⟨q, 0, none⟩), .int .i64 xk] wx fun e w' => e = .returned (.tuple #[.agg #[.bool r.obj, .int .i64 r.n], .bool true]) ∧ Below wx.heap.size wx w') := by
      have h := duo_rpinned HD.out (by have := HI3.out; omega) xk
      rw [hp] at h
      exact h
    clear hp
    go_wp2_with
      (first
      | (go_at_call 22; refine PN.out.mono ?_; rintro e w6 ⟨rfl, rfl⟩; dsimp only)
      | (go_at_call 40; refine RP.out.mono ?_; rintro e w7 ⟨rfl, hb7⟩; have HDB := Lib.hid (((HD.out.later hb7).alone).aside (.cells #[.bool r.obj, .int .i64 r.n] 27)); clear hb7; dsimp only)
      | (go_at_call 15; refine (duo_push HDB.out (by rw [List.length_map]; have := HSL.out.1; have := HI3.out; omega) _).mono ?_; rintro e w8 ⟨rfl, hd8⟩; have HD8 := Lib.hid (duo_pushed hd8 rfl OK.out); clear hd8; dsimp only))
    have hbz : w7.heap.size < w8.heap.size := lt_of_block (HD8.out.box rfl)
    have v0 : w8.cell? ⟨w7.heap.size, 0, none⟩ = some (.bool r.obj) := by simp [World.cell?, HD8.out.box rfl]
    have v1 : w8.cell? ⟨w7.heap.size, 1, none⟩ = some (.int .i64 r.n) := by simp [World.cell?, HD8.out.box rfl]
    have HNX2 : Hid ((Bd.mk NN.n (some (w7.heap.size, (.cells #[.bool r.obj, .int .i64 r.n] 27)))).x = some (w7.heap.size, (.cells #[.bool r.obj, .int .i64 r.n] 27))) := rfl
    generalize w7.heap.size = bx2 at *
    obtain ⟨aS, s, cS, hsa⟩ := stack_at HD8.out
    have SA := Lib.hid hsa
    obtain ⟨cc2, _, cf2⟩ := hsa.at_ w8 (Below.refl _ _)
    have hsl : s ≤ 1000 := by have := SA.out.len; have := HSL.out.1; have := HI3.out.1; omega
    have RW : Hid (∀ W, Below w8.heap.size w8 W → RowZ W 27 2 (.slice aS s cS) s (rcells A.stack)) := fun W hW => (SA.out.at_ W hW).2.1
    have CB : Hid (∀ w', Below w8.heap.size w8 w' → w'.cell? ⟨q, 2, none⟩ = some (.slice aS s cS) ∧ w'.cell? ⟨bx2, 0, none⟩ = some (.bool r.obj) ∧ w'.cell? ⟨bx2, 1, none⟩ = some (.int .i64 r.n)) := fun W hW => ⟨(SA.out.at_ W hW).1, (hW.cell (p := ⟨bx2, 0, none⟩) hbz).trans v0, (hW.cell (p := ⟨bx2, 1, none⟩) hbz).trans v1⟩
    have CK : Hid (∀ W v w' v', Below w8.heap.size w8 W → v = .slice aS s cS → Appended W v w' v' → (w'.cell? ⟨q, 2, none⟩ = some (.slice aS s cS) ∧ w'.cell? ⟨bx2, 0, none⟩ = some (.bool r.obj) ∧ w'.cell? ⟨bx2, 1, none⟩ = some (.int .i64 r.n)) ∧ w'.frozen? ⟨q, 2, none⟩ = false) := fun W v w' v' hW hv ha => by
      subst hv
      have h := CB.out W hW
      have hq := Nat.lt_of_lt_of_le SA.out.ql hW.size
      have nq : (Value.slice aS s cS).ownBlock ≠ some q := fun e => (SA.out.own q e).2 rfl
      have hb := Nat.lt_of_lt_of_le hbz hW.size
      have nb : (Value.slice aS s cS).ownBlock ≠ some bx2 := SA.out.bx _ _ HNX2.out
      exact ⟨⟨(app_keep ha hq nq 2).1.trans h.1, (app_keep ha hb nb 0).1.trans h.2.1, (app_keep ha hb nb 1).1.trans h.2.2⟩, (app_keep ha hq nq 2).2.trans (SA.out.at_ W hW).2.2⟩
    clear hsa
    go_wp2
    refine wp_region_lastL (S := fun w' => w'.cell? ⟨q, 2, none⟩ = some (.slice aS s cS) ∧ w'.cell? ⟨bx2, 0, none⟩ = some (.bool r.obj) ∧ w'.cell? ⟨bx2, 1, none⟩ = some (.int .i64 r.n)) (by kernel_rfl) (by simp only [butLast]; rfl) (by simp only [lastOf]; rfl) (by kernel_rfl) (by kernel_rfl) ?_ (fun hHeld => ?_)
    focus exact CB.out _ (below_drew (Below.refl _ _))
    try simp only [List.size_toArray, List.length_cons, List.length_nil]
    refine wpAnyH_take (i := 0) (v := ?_) rfl (by kernel_rfl) (by kernel_rfl) (by kernel_rfl) (fun _ _ _ h => hK _ _ _ _ h) (Or.inl ⟨by rfl, ?_⟩) (by assumption) ?_
    rotate_left
    focus (intro w hSw; (try dsimp only at hSw); go_simp; try with_reducible rfl)
    try simp only [Act.put, List.setIfInBounds_toArray, List.set_cons_zero, List.set_cons_succ, Nat.zero_add]
    refine wpAnyH_take (i := 1) (v := ?_) rfl (by kernel_rfl) (by kernel_rfl) (by kernel_rfl) (fun _ _ _ h => hK _ _ _ _ h) (Or.inl ⟨by rfl, ?_⟩) (by assumption) ?_
    rotate_left
    focus (intro w hSw; (try dsimp only at hSw); go_simp; try with_reducible rfl)
    try simp only [Act.put, List.setIfInBounds_toArray, List.set_cons_zero, List.set_cons_succ, Nat.zero_add]
    refine wpAnyH_take (i := 2) (v := ?_) rfl (by kernel_rfl) (by kernel_rfl) (by kernel_rfl) (fun _ _ _ h => hK _ _ _ _ h) (Or.inl ⟨by rfl, ?_⟩) (by assumption) ?_
    rotate_left
    focus (intro w hSw; (try dsimp only at hSw); go_simp; try with_reducible rfl)
    try simp only [Act.put, List.setIfInBounds_toArray, List.set_cons_zero, List.set_cons_succ, Nat.zero_add]
    refine wpAnyH_take (i := 3) (v := ?_) rfl (by kernel_rfl) (by kernel_rfl) (by kernel_rfl) (fun _ _ _ h => hK _ _ _ _ h) (Or.inl ⟨by rfl, ?_⟩) (by assumption) ?_
    rotate_left
    focus (intro w hSw; (try dsimp only at hSw); go_simp; try with_reducible rfl)
    try simp only [Act.put, List.setIfInBounds_toArray, List.set_cons_zero, List.set_cons_succ, Nat.zero_add]
    refine wpAnyH_take (i := 4) (v := ?_) rfl (by kernel_rfl) (by kernel_rfl) (by kernel_rfl) (fun _ _ _ h => hK _ _ _ _ h) (Or.inl ⟨by rfl, ?_⟩) (by assumption) ?_
    rotate_left
    focus (intro w hSw; (try dsimp only at hSw); go_simp; try with_reducible rfl)
    try simp only [Act.put, List.setIfInBounds_toArray, List.set_cons_zero, List.set_cons_succ, Nat.zero_add]
    refine wpAnyH_take (i := 5) (v := ?_) rfl (by kernel_rfl) (by kernel_rfl) (by kernel_rfl) (fun _ _ _ h => hK _ _ _ _ h) (Or.inl ⟨by rfl, ?_⟩) (by assumption) ?_
    rotate_left
    focus (intro w hSw; (try dsimp only at hSw); go_simp; try with_reducible rfl)
    try simp only [Act.put, List.setIfInBounds_toArray, List.set_cons_zero, List.set_cons_succ, Nat.zero_add]
    refine wpAnyH_ready (rs := [6]) (by kernel_rfl) (by simp) ?_
    refine AllReadyH.cons rfl (fun K hK => ?_) AllReadyH.nil
    go_simp
    refine hK.out _ _ (CB.out _ (below_drew ((Below.refl _ _).alloc (Nat.le_refl _) _))) (fun hHeld => ?_)
    clear hK K
    try simp only [Act.put, List.setIfInBounds_toArray, List.set_cons_zero, List.set_cons_succ, Nat.zero_add]
    refine wpAnyH_ready (rs := [7]) (by kernel_rfl) (by simp) ?_
    refine AllReadyH.cons rfl (fun K hK => ?_) AllReadyH.nil
    refine step_app2 (x0 := .bool r.obj) (x1 := .int .i64 r.n) (by rfl) _ _ (by rfl) (by rfl) (RW.out _ (below_drew ((Below.refl _ _).alloc (Nat.le_refl _) _))) (by rfl) (by simp) (by simp) (by rfl) (by rfl) (by omega) ?_
    intro ao40 cap40 w40 hr40 ha40
    obtain ⟨hk40, hf40⟩ := CK.out _ _ _ _ (below_drew ((Below.refl _ _).alloc (Nat.le_refl _) _)) rfl ha40
    have DN := Lib.hid (SA.out.app _ _ _ _ (r) (below_drew ((Below.refl _ _).alloc (Nat.le_refl _) _)) hr40 ha40)
    clear hr40 ha40
    refine hK.out _ _ hk40 (fun hHeld => ?_)
    clear hK K
    try simp only [Act.put, List.setIfInBounds_toArray, List.set_cons_zero, List.set_cons_succ, Nat.zero_add]
    refine wpAnyH_take (i := 8) (v := ?_) rfl (by kernel_rfl) (by kernel_rfl) (by kernel_rfl) (fun _ _ _ h => hK _ _ _ _ h) (Or.inl ⟨by rfl, ?_⟩) (by assumption) ?_
    rotate_left
    focus (intro w hSw; (try dsimp only at hSw); go_simp; try with_reducible rfl)
    try simp only [Act.put, List.setIfInBounds_toArray, List.set_cons_zero, List.set_cons_succ, Nat.zero_add]
    refine wpAnyH_take (i := 9) (v := ?_) rfl (by kernel_rfl) (by kernel_rfl) (by kernel_rfl) (fun _ _ _ h => hK _ _ _ _ h) (Or.inl ⟨by rfl, ?_⟩) (by assumption) ?_
    rotate_left
    focus (intro w hSw; (try dsimp only at hSw); go_simp; try with_reducible rfl)
    try simp only [Act.put, List.setIfInBounds_toArray, List.set_cons_zero, List.set_cons_succ, Nat.zero_add]
    refine wpAnyH_done (by kernel_rfl) ?_ _
    show Oper.wp _ _ _ _ _ _
    go_simp
    go_wp2
    refine Met.intro ?_
    refine HA1.out _ _ ?_
    unfold MvR
    refine ⟨_, _, _, _, _, _, _, _, _, _, _, _, _, _, _, _, _, _, _, _, _, _, _, _, _, _, _, _, _, _, _, _, _, _, _, _, _, _, _, _, _, _, _, _, _, _, _, _, _, _, _, _, _, _, _, _, _, _, _, _, _, _, _, _, _, _, _, _, _, _, _, _, _, _, _, _, _, _, _, _, _, _, _, _, _, _, _, _, _, _, _, _, _, _, _, _, _, _, _, _, _, _, _, _, _, _, _, _, _, _, _, _, _, _, _, _, _, _, _, _, _, _, _, _, _, _, _, _, _, _, _, _, _, _, _, _, _, _, _, _, _, _, _, _, _, _, _, _, _, _, _, _, _, _, _, _, _, _, _, _, _, _, _, _, _, _, _, _, _, _, _, _, _, _, _, _, _, _, _, _, _, _, _, _, _, _, _, _, _, _, _, _, _, _, _, _, _, _, _, _, _, _, _, _, _, _, _, _, _, _, _, _, _, _, _, _, _, _, _, _, _, _, _, _, _, _, _, _, _, _, _, _, _, _, _, _, _, _, _, _, _, _, _, _, _, _, _, _, _, _, _, _, _, _, _, _, _, _, _, _, _, _, _, _, _, _, _, _, _, _, _, _, _, _, _, _, _, _, _, _, _, _, _, _, _, _, ?_, rfl⟩
    have := mv_next (n := nn) (i := i) DN.out rfl HLIM.out (by omega) (by omega)
    rwa [HNN.out] at this
  | none =>
    skip
    have OK : Hid (A.Ok (imm 0)) := ok_imm (by omega) (by omega)
    have PN : Hid (Calls Try.prog 22 #[.pointer (some ⟨p, 0, none⟩), .int .i64 xk] wx fun e w' => e = .returned (.tuple #[.int .i64 0, .bool false]) ∧ wx = w') := by
      have h := duo_pinned HD.out HKW.out
      rw [hp] at h
      exact h
    have RP : Hid (Calls Try.prog 40 #[.pointer (some ⟨q, 0, none⟩), .int .i64 xk] wx fun e w' => e = .returned (.tuple #[.agg #[.bool false, .int .i64 0], .bool false]) ∧ Below wx.heap.size wx w') := by
      have h := duo_rpinned HD.out (by have := HI3.out; omega) xk
      rw [hp] at h
      exact h
    have I0 : Hid (∀ W, Calls Try.prog 9 #[.int .i64 0] W fun e w' => e = .returned (.int .i64 1) ∧ W = w') := fun W => by
      have h := imm_any 0 W
      rwa [wr_of_in 0 (by omega) (by omega)] at h
    clear hp
    go_wp2_with
      (first
      | (go_at_call 22; refine PN.out.mono ?_; rintro e w6 ⟨rfl, rfl⟩; dsimp only)
      | (go_at_call 40; refine RP.out.mono ?_; rintro e w7 ⟨rfl, hb7⟩; have HDB := Lib.hid (((HD.out.later hb7).alone).aside (.cells #[.bool false, .int .i64 0] 27)); clear hb7; dsimp only)
      | (go_at_call 15; refine (duo_push HDB.out (by rw [List.length_map]; have := HSL.out.1; have := HI3.out; omega) _).mono ?_; rintro e w9 ⟨rfl, hd9⟩; have HD9 := Lib.hid hd9; clear hd9 HDB; dsimp only)
      | (go_at_call 27; refine (duo_pop HD9.out).mono ?_; rintro e w10 ⟨rfl, hd10⟩; have HD10 := Lib.hid (pop_back hd10); clear hd10; dsimp only)
      | (go_at_call 9; refine (I0.out _).mono ?_; rintro e w11 ⟨rfl, rfl⟩; dsimp only)
      | (go_at_call 15; refine (duo_push HD10.out (by rw [List.length_map]; have := HSL.out.1; have := HI3.out; omega) _).mono ?_; rintro e w8 ⟨rfl, hd8⟩; have HD8 := Lib.hid (duo_pushed (r' := imm 0) hd8 rfl OK.out); clear hd8; dsimp only))
    have hbz : w7.heap.size < w8.heap.size := lt_of_block (HD8.out.box rfl)
    have v0 : w8.cell? ⟨w7.heap.size, 0, none⟩ = some (.bool false) := by simp [World.cell?, HD8.out.box rfl]
    have v1 : w8.cell? ⟨w7.heap.size, 1, none⟩ = some (.int .i64 0) := by simp [World.cell?, HD8.out.box rfl]
    have HNX2 : Hid ((Bd.mk NN.n (some (w7.heap.size, (.cells #[.bool false, .int .i64 0] 27)))).x = some (w7.heap.size, (.cells #[.bool false, .int .i64 0] 27))) := rfl
    generalize w7.heap.size = bx2 at *
    obtain ⟨aS, s, cS, hsa⟩ := stack_at HD8.out
    have SA := Lib.hid hsa
    obtain ⟨cc2, _, cf2⟩ := hsa.at_ w8 (Below.refl _ _)
    have hsl : s ≤ 1000 := by have := SA.out.len; have := HSL.out.1; have := HI3.out.1; omega
    have RW : Hid (∀ W, Below w8.heap.size w8 W → RowZ W 27 2 (.slice aS s cS) s (rcells A.stack)) := fun W hW => (SA.out.at_ W hW).2.1
    have CB : Hid (∀ w', Below w8.heap.size w8 w' → w'.cell? ⟨q, 2, none⟩ = some (.slice aS s cS) ∧ w'.cell? ⟨bx2, 0, none⟩ = some (.bool false) ∧ w'.cell? ⟨bx2, 1, none⟩ = some (.int .i64 0)) := fun W hW => ⟨(SA.out.at_ W hW).1, (hW.cell (p := ⟨bx2, 0, none⟩) hbz).trans v0, (hW.cell (p := ⟨bx2, 1, none⟩) hbz).trans v1⟩
    have CK : Hid (∀ W v w' v', Below w8.heap.size w8 W → v = .slice aS s cS → Appended W v w' v' → (w'.cell? ⟨q, 2, none⟩ = some (.slice aS s cS) ∧ w'.cell? ⟨bx2, 0, none⟩ = some (.bool false) ∧ w'.cell? ⟨bx2, 1, none⟩ = some (.int .i64 0)) ∧ w'.frozen? ⟨q, 2, none⟩ = false) := fun W v w' v' hW hv ha => by
      subst hv
      have h := CB.out W hW
      have hq := Nat.lt_of_lt_of_le SA.out.ql hW.size
      have nq : (Value.slice aS s cS).ownBlock ≠ some q := fun e => (SA.out.own q e).2 rfl
      have hb := Nat.lt_of_lt_of_le hbz hW.size
      have nb : (Value.slice aS s cS).ownBlock ≠ some bx2 := SA.out.bx _ _ HNX2.out
      exact ⟨⟨(app_keep ha hq nq 2).1.trans h.1, (app_keep ha hb nb 0).1.trans h.2.1, (app_keep ha hb nb 1).1.trans h.2.2⟩, (app_keep ha hq nq 2).2.trans (SA.out.at_ W hW).2.2⟩
    clear hsa
    go_wp2
    refine wp_region_lastL (S := fun w' => w'.cell? ⟨q, 2, none⟩ = some (.slice aS s cS) ∧ w'.cell? ⟨bx2, 0, none⟩ = some (.bool false) ∧ w'.cell? ⟨bx2, 1, none⟩ = some (.int .i64 0)) (by kernel_rfl) (by simp only [butLast]; rfl) (by simp only [lastOf]; rfl) (by kernel_rfl) (by kernel_rfl) ?_ (fun hHeld => ?_)
    focus exact CB.out _ (below_drew (Below.refl _ _))
    try simp only [List.size_toArray, List.length_cons, List.length_nil]
    refine wpAnyH_take (i := 0) (v := ?_) rfl (by kernel_rfl) (by kernel_rfl) (by kernel_rfl) (fun _ _ _ h => hK _ _ _ _ h) (Or.inl ⟨by rfl, ?_⟩) (by assumption) ?_
    rotate_left
    focus (intro w hSw; (try dsimp only at hSw); go_simp; try with_reducible rfl)
    try simp only [Act.put, List.setIfInBounds_toArray, List.set_cons_zero, List.set_cons_succ, Nat.zero_add]
    refine wpAnyH_take (i := 1) (v := ?_) rfl (by kernel_rfl) (by kernel_rfl) (by kernel_rfl) (fun _ _ _ h => hK _ _ _ _ h) (Or.inl ⟨by rfl, ?_⟩) (by assumption) ?_
    rotate_left
    focus (intro w hSw; (try dsimp only at hSw); go_simp; try with_reducible rfl)
    try simp only [Act.put, List.setIfInBounds_toArray, List.set_cons_zero, List.set_cons_succ, Nat.zero_add]
    refine wpAnyH_take (i := 2) (v := ?_) rfl (by kernel_rfl) (by kernel_rfl) (by kernel_rfl) (fun _ _ _ h => hK _ _ _ _ h) (Or.inl ⟨by rfl, ?_⟩) (by assumption) ?_
    rotate_left
    focus (intro w hSw; (try dsimp only at hSw); go_simp; try with_reducible rfl)
    try simp only [Act.put, List.setIfInBounds_toArray, List.set_cons_zero, List.set_cons_succ, Nat.zero_add]
    refine wpAnyH_take (i := 3) (v := ?_) rfl (by kernel_rfl) (by kernel_rfl) (by kernel_rfl) (fun _ _ _ h => hK _ _ _ _ h) (Or.inl ⟨by rfl, ?_⟩) (by assumption) ?_
    rotate_left
    focus (intro w hSw; (try dsimp only at hSw); go_simp; try with_reducible rfl)
    try simp only [Act.put, List.setIfInBounds_toArray, List.set_cons_zero, List.set_cons_succ, Nat.zero_add]
    refine wpAnyH_take (i := 4) (v := ?_) rfl (by kernel_rfl) (by kernel_rfl) (by kernel_rfl) (fun _ _ _ h => hK _ _ _ _ h) (Or.inl ⟨by rfl, ?_⟩) (by assumption) ?_
    rotate_left
    focus (intro w hSw; (try dsimp only at hSw); go_simp; try with_reducible rfl)
    try simp only [Act.put, List.setIfInBounds_toArray, List.set_cons_zero, List.set_cons_succ, Nat.zero_add]
    refine wpAnyH_take (i := 5) (v := ?_) rfl (by kernel_rfl) (by kernel_rfl) (by kernel_rfl) (fun _ _ _ h => hK _ _ _ _ h) (Or.inl ⟨by rfl, ?_⟩) (by assumption) ?_
    rotate_left
    focus (intro w hSw; (try dsimp only at hSw); go_simp; try with_reducible rfl)
    try simp only [Act.put, List.setIfInBounds_toArray, List.set_cons_zero, List.set_cons_succ, Nat.zero_add]
    refine wpAnyH_ready (rs := [6]) (by kernel_rfl) (by simp) ?_
    refine AllReadyH.cons rfl (fun K hK => ?_) AllReadyH.nil
    go_simp
    refine hK.out _ _ (CB.out _ (below_drew ((Below.refl _ _).alloc (Nat.le_refl _) _))) (fun hHeld => ?_)
    clear hK K
    try simp only [Act.put, List.setIfInBounds_toArray, List.set_cons_zero, List.set_cons_succ, Nat.zero_add]
    refine wpAnyH_ready (rs := [7]) (by kernel_rfl) (by simp) ?_
    refine AllReadyH.cons rfl (fun K hK => ?_) AllReadyH.nil
    refine step_app2 (x0 := .bool false) (x1 := .int .i64 0) (by rfl) _ _ (by rfl) (by rfl) (RW.out _ (below_drew ((Below.refl _ _).alloc (Nat.le_refl _) _))) (by rfl) (by simp) (by simp) (by rfl) (by rfl) (by omega) ?_
    intro ao40 cap40 w40 hr40 ha40
    obtain ⟨hk40, hf40⟩ := CK.out _ _ _ _ (below_drew ((Below.refl _ _).alloc (Nat.le_refl _) _)) rfl ha40
    have DN := Lib.hid (SA.out.app _ _ _ _ (imm 0) (below_drew ((Below.refl _ _).alloc (Nat.le_refl _) _)) hr40 ha40)
    clear hr40 ha40
    refine hK.out _ _ hk40 (fun hHeld => ?_)
    clear hK K
    try simp only [Act.put, List.setIfInBounds_toArray, List.set_cons_zero, List.set_cons_succ, Nat.zero_add]
    refine wpAnyH_take (i := 8) (v := ?_) rfl (by kernel_rfl) (by kernel_rfl) (by kernel_rfl) (fun _ _ _ h => hK _ _ _ _ h) (Or.inl ⟨by rfl, ?_⟩) (by assumption) ?_
    rotate_left
    focus (intro w hSw; (try dsimp only at hSw); go_simp; try with_reducible rfl)
    try simp only [Act.put, List.setIfInBounds_toArray, List.set_cons_zero, List.set_cons_succ, Nat.zero_add]
    refine wpAnyH_take (i := 9) (v := ?_) rfl (by kernel_rfl) (by kernel_rfl) (by kernel_rfl) (fun _ _ _ h => hK _ _ _ _ h) (Or.inl ⟨by rfl, ?_⟩) (by assumption) ?_
    rotate_left
    focus (intro w hSw; (try dsimp only at hSw); go_simp; try with_reducible rfl)
    try simp only [Act.put, List.setIfInBounds_toArray, List.set_cons_zero, List.set_cons_succ, Nat.zero_add]
    refine wpAnyH_done (by kernel_rfl) ?_ _
    show Oper.wp _ _ _ _ _ _
    go_simp
    go_wp2
    refine Met.intro ?_
    refine HA1.out _ _ ?_
    unfold MvR
    refine ⟨_, _, _, _, _, _, _, _, _, _, _, _, _, _, _, _, _, _, _, _, _, _, _, _, _, _, _, _, _, _, _, _, _, _, _, _, _, _, _, _, _, _, _, _, _, _, _, _, _, _, _, _, _, _, _, _, _, _, _, _, _, _, _, _, _, _, _, _, _, _, _, _, _, _, _, _, _, _, _, _, _, _, _, _, _, _, _, _, _, _, _, _, _, _, _, _, _, _, _, _, _, _, _, _, _, _, _, _, _, _, _, _, _, _, _, _, _, _, _, _, _, _, _, _, _, _, _, _, _, _, _, _, _, _, _, _, _, _, _, _, _, _, _, _, _, _, _, _, _, _, _, _, _, _, _, _, _, _, _, _, _, _, _, _, _, _, _, _, _, _, _, _, _, _, _, _, _, _, _, _, _, _, _, _, _, _, _, _, _, _, _, _, _, _, _, _, _, _, _, _, _, _, _, _, _, _, _, _, _, _, _, _, _, _, _, _, _, _, _, _, _, _, _, _, _, _, _, _, _, _, _, _, _, _, _, _, _, _, _, _, _, _, _, _, _, _, _, _, _, _, _, _, _, _, _, _, _, _, _, _, _, _, _, _, _, _, _, _, _, _, _, _, _, _, _, _, _, _, _, _, _, _, _, _, _, _, ?_, rfl⟩
    have := mv_next (n := nn) (i := i) DN.out rfl HLIM.out (by omega) (by omega)
    rwa [HNN.out] at this
end Go.Proofs.Ytlbiapgikkjooaa
