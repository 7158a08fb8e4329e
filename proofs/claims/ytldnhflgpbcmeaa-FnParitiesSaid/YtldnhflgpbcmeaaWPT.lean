/-
  The end of FnParities: what is behind the mended words.
  Conditions: what the walk ahead of it has shown.
-/
import Derived.Test.YtldnhflgpbcmeaaER
import Derived.Test.YtldnhflgpbcmeaaEQ
import Derived.Test.YtldnhflgpbcmeaaEM
import Derived.Test.YtldnhflgpbcmeaaEO
import Derived.Deep.QuietTactic
import Derived.BigQuiet
namespace Go.Proofs.Ytldnhflgpbcmeaa
open Go.RowKit

/-- a code in a world, behind another one -/
def Code2 (D : World) (P M n cap : Nat) (A : Option Addr) (xs : List Int) (W : World) : Prop := Below D.heap.size D W ∧ P < D.heap.size ∧ Obj D P 27 #[.int .i64 (M : Int), .slice A n cap] ∧ Sl D D.heap.size A (xs.map (Value.int .i64))
theorem Code2.cells {D : World} {P M n cap : Nat} {A : Option Addr} {xs : List Int} {W : World} (h : Code2 D P M n cap A xs W) : W.cell? ⟨P, 0, none⟩ = some (.int .i64 (M : Int)) ∧ W.cell? ⟨P, 1, none⟩ = some (.slice A n cap) := (h.2.2.1.below h.1 h.2.1).two.1
theorem Code2.sl {D : World} {P M n cap : Nat} {A : Option Addr} {xs : List Int} {W : World} (h : Code2 D P M n cap A xs W) : Sl W W.heap.size A (xs.map (Value.int .i64)) := (h.2.2.2.below h.1).more h.1.size
theorem Code2.next {D : World} {P M n cap : Nat} {A : Option Addr} {xs : List Int} {W W' : World} (h : Code2 D P M n cap A xs W) (b : Below W.heap.size W W') : Code2 D P M n cap A xs W' := ⟨h.1.trans (b.mono h.1.size), h.2⟩

theorem Code2.drewN {D : World} {P M n cap : Nat} {A : Option Addr} {xs : List Int} {W : World} (h : Code2 D P M n cap A xs W) (k : Nat) : Code2 D P M n cap A xs (W.drewN k) := ⟨below_drewN h.1 k, h.2⟩
theorem sl_cells {w : World} {B : Nat} {A : Option Addr} {l : List Int} (h : Sl w B A (l.map (Value.int .i64))) (h0 : 0 < l.length) : ∃ b off, A = some ⟨b, off, none⟩ ∧ b < B ∧ ∀ k, k < l.length → w.cell? ⟨b, off + k, none⟩ = some (.int .i64 (l.getD k 0)) := by
  obtain ⟨b, off, rfl, hb, _⟩ := sl_cell h h0
  refine ⟨b, off, rfl, hb, fun k hk => ?_⟩
  obtain ⟨b2, off2, e, _, hc⟩ := sl_cell h hk
  cases e
  exact hc

theorem ones_at {w : World} {x : Int} {q j : Nat} (h0 : 0 ≤ x) (h1 : x < 65536) : Calls Try.prog 17 #[.int .i64 x] (w.drewN (q + j)) fun e w' => e = .returned (.int .i64 (wt x)) ∧ ∃ k, w' = w.drewN (q + k) := by
  refine (r8Ones_c _ x h0 h1).mono ?_
  rintro e w' ⟨rfl, rfl⟩
  exact ⟨rfl, j, rfl⟩
theorem sl_new2 (w : World) (x y : Int) : Sl (w.alloc (.cells #[.int .i64 x, .int .i64 y] 2)) (w.alloc (.cells #[.int .i64 x, .int .i64 y] 2)).heap.size (some ⟨w.heap.size, 0, none⟩) ([x, y].map (Value.int .i64)) := by
  have h := row_own (w := w.alloc (.cells #[.int .i64 x, .int .i64 y] 2)) (base := 0) (g := w.heap.size) (e := 2) (l := [x, y].map (Value.int .i64)) (Nat.zero_le _) (heap_alloc_new w _) rfl (by simp)
  exact sl_of_own h
theorem v_okA {M : Nat} {xs : List Int} (hv : validParB (M : Int) xs = true) : okL (M : Int) xs 0 16 = true := v_ok hv (x := 0) (Nat.pow_pos (by decide)) (by decide) (by decide)

/-- what stands behind a region of a body -/
def aft (n : Nat) : Code → Option Code
  | .seq (.region k _ _) b => if k == n then some b else aft n b
  | .seq a b => match aft n a with
    | some c => some (.seq c b)
    | none => aft n b
  | _ => none
noncomputable def rest50 : Code := ((Try.f4.body.bind (aft 50)).getD .skip)

set_option maxRecDepth 1000000 in
set_option maxHeartbeats 40000000 in
theorem tail_FnParities (w W D D2 : World) (P T M n cap dn kc n2 cap2 Q c17 c20 X Y f B17 B20 : Nat) (A S A2 A17 A20 : Option Addr) (xs DL LL m : List Int)
    (hC : Code2 D P M n cap A xs W) (hE : Code2 D2 T M dn kc S DL W) (hB : Below w.heap.size w W) (hdv : Dv M n xs) (hM8 : M ≤ 8)
    (hp17 : W.ownsRow B17 2 1 (.slice A17 Q c17) Q (LL.map (Value.int .i64))) (hLL : LL.length = Q) (hL0 : LL.getD 0 0 = 0) (hQ : 2 ^ dn = Q) (hdn : dn ≤ 8)
    (hp20 : W.ownsRow B20 2 1 (.slice A20 2 c20) 2 ([(X : Int), (X : Int)].map (Value.int .i64)))
    (hXM : (X : Int) < 2 ^ M) (hYM : (Y : Int) < 2 ^ M) (hf : wt (xorI (Y : Int) (X : Int)) = (f : Int))
    (hat : Calls Try.prog 6 #[.slice A2 n2 cap2, .int .i64 3, .int .i64 (2 ^ M)] W fun e w' => e = .returned (.int .i64 (r8V m 3 (2 ^ M))) ∧ W = w')
    (u0 u2 u3 u4 u6 u7 u9 u10 u11 u12 u13 u14 u15 u16 u17 u18 u19 u20 u21 u22 u23 u25 u26 u27 u28 u29 u30 u31 u38 u44 u45 u46 u47 u48 u49 u50 u51 u52 u53 u54 u55 u56 u57 u58 u59 u60 u61 u62 u63 u64 u65 u66 u67 u68 u69 u70 u71 u72 u73 u74 u75 u76 u77 u78 u79 u80 u81 u82 u83 u84 u85 u86 u87 u88 u89 u90 u91 u92 u93 u94 u95 u96 u97 u98 u99 u100 u101 u102 u103 u104 u105 u106 u107 u108 u109 u110 u111 u112 u113 u114 u115 u116 u117 u118 u119 u120 u121 u122 u123 u124 u125 u126 u127 u128 u129 u130 u131 u132 u133 u134 u135 u136 u137 u138 u139 u140 u141 u142 u143 u144 u145 u146 u147 u148 u149 u150 u151 u152 u153 u154 u155 u156 u157 u158 u159 u160 u161 u162 u163 u164 u165 u166 u167 u168 u169 u170 u171 u172 u173 u174 u175 u176 u177 u178 u179 u180 u181 u182 u183 u184 u185 u186 u187 u188 u189 u190 u191 u192 u193 u194 u195 u196 u197 u198 u199 u200 u201 u202 u203 u204 u205 u206 u207 u208 u209 u210 u211 u212 u213 u214 u215 u216 u217 u218 u219 u220 u221 u222 u223 u224 u225 u226 u227 u228 u229 u230 u231 u232 u233 u234 u235 u236 u237 u238 u239 u240 u241 u242 u243 u244 u245 u246 u247 u248 u249 u250 u251 u252 u253 u254 u255 u256 u257 u258 u259 u260 u261 u262 u263 u264 u265 u266 u267 u268 u269 u270 u271 u272 u273 u274 u275 u276 u277 u278 u279 u280 u281 u282 u283 u284 u285 u286 u287 u288 u289 u290 u291 u292 u293 u294 u295 u296 u297 u298 u299 u300 u301 u302 u303 u304 u305 u306 u307 u308 u309 u310 u311 u312 u313 u314 u315 u316 u317 u318 u319 u320 u321 u322 u323 u324 u325 u326 u327 u328 u329 u330 u331 u332 u333 u334 u335 u336 u337 u338 u339 u340 u341 u342 u343 u344 u345 u346 u347 u348 u349 u350 u351 u352 u353 u354 u355 u356 u357 u358 u359 u360 u361 u362 u363 u364 u365 u366 u367 u368 u369 u370 u371 u372 u373 u374 u375 u376 u377 u378 u379 u380 u381 u382 u383 u384 u385 u386 u387 u388 u389 u390 u391 u392 u393 u394 u395 u396 u397 u398 u399 u400 u401 u402 u403 u404 u405 u406 u407 u408 u409 u410 u411 u412 u413 u414 u415 u416 u417 u418 u419 u420 u421 u422 u423 u424 u425 u426 u427 u428 u429 u430 u431 u432 u433 u434 u435 u436 u437 u438 u439 u440 u441 u442 u443 u444 u445 u446 u447 u448 u449 u450 u451 u452 u453 u454 u455 u456 u457 u458 u459 u460 u461 u462 u463 u464 u465 u466 : Value) :
    Code.wp Try.prog rest50 (bodyPost Try.prog Try.f4 fun e w' => e = .returned (.bool true) ∧ Below w.heap.size w w') ⟨#[u0, .slice A2 n2 cap2, u2, u3, u4, .pointer (some ⟨P, 0, none⟩), u6, u7, .int .i64 (X : Int), u9, u10, u11, u12, u13, u14, u15, u16, u17, u18, u19, u20, u21, u22, u23, .pointer (some ⟨T, 0, none⟩), u25, u26, u27, u28, u29, u30, u31, .int .i64 0, .bool true, .slice A17 Q c17, .bool true, .int .i64 (Y : Int), .int .i64 (f : Int), u38, .int .i64 (X : Int), .int .i64 (f : Int), .bool true, .slice A20 2 c20, .bool true, u44, u45, u46, u47, u48, u49, u50, u51, u52, u53, u54, u55, u56, u57, u58, u59, u60, u61, u62, u63, u64, u65, u66, u67, u68, u69, u70, u71, u72, u73, u74, u75, u76, u77, u78, u79, u80, u81, u82, u83, u84, u85, u86, u87, u88, u89, u90, u91, u92, u93, u94, u95, u96, u97, u98, u99, u100, u101, u102, u103, u104, u105, u106, u107, u108, u109, u110, u111, u112, u113, u114, u115, u116, u117, u118, u119, u120, u121, u122, u123, u124, u125, u126, u127, u128, u129, u130, u131, u132, u133, u134, u135, u136, u137, u138, u139, u140, u141, u142, u143, u144, u145, u146, u147, u148, u149, u150, u151, u152, u153, u154, u155, u156, u157, u158, u159, u160, u161, u162, u163, u164, u165, u166, u167, u168, u169, u170, u171, u172, u173, u174, u175, u176, u177, u178, u179, u180, u181, u182, u183, u184, u185, u186, u187, u188, u189, u190, u191, u192, u193, u194, u195, u196, u197, u198, u199, u200, u201, u202, u203, u204, u205, u206, u207, u208, u209, u210, u211, u212, u213, u214, u215, u216, u217, u218, u219, u220, u221, u222, u223, u224, u225, u226, u227, u228, u229, u230, u231, u232, u233, u234, u235, u236, u237, u238, u239, u240, u241, u242, u243, u244, u245, u246, u247, u248, u249, u250, u251, u252, u253, u254, u255, u256, u257, u258, u259, u260, u261, u262, u263, u264, u265, u266, u267, u268, u269, u270, u271, u272, u273, u274, u275, u276, u277, u278, u279, u280, u281, u282, u283, u284, u285, u286, u287, u288, u289, u290, u291, u292, u293, u294, u295, u296, u297, u298, u299, u300, u301, u302, u303, u304, u305, u306, u307, u308, u309, u310, u311, u312, u313, u314, u315, u316, u317, u318, u319, u320, u321, u322, u323, u324, u325, u326, u327, u328, u329, u330, u331, u332, u333, u334, u335, u336, u337, u338, u339, u340, u341, u342, u343, u344, u345, u346, u347, u348, u349, u350, u351, u352, u353, u354, u355, u356, u357, u358, u359, u360, u361, u362, u363, u364, u365, u366, u367, u368, u369, u370, u371, u372, u373, u374, u375, u376, u377, u378, u379, u380, u381, u382, u383, u384, u385, u386, u387, u388, u389, u390, u391, u392, u393, u394, u395, u396, u397, u398, u399, u400, u401, u402, u403, u404, u405, u406, u407, u408, u409, u410, u411, u412, u413, u414, u415, u416, u417, u418, u419, u420, u421, u422, u423, u424, u425, u426, u427, u428, u429, u430, u431, u432, u433, u434, u435, u436, u437, u438, u439, u440, u441, u442, u443, u444, u445, u446, u447, u448, u449, u450, u451, u452, u453, u454, u455, u456, u457, u458, u459, u460, u461, u462, u463, u464, u465, u466], []⟩ W := by
  have hM16 : M ≤ 16 := hdv.m
  have hpM : (1 : Int) ≤ 2 ^ M ∧ (2 : Int) ^ M ≤ 65536 := pow16 hM16
  have hso := r8V_bd m 3 (2 ^ M) hpM.1
  have hn8 := hdv.n8
  obtain ⟨O, hO⟩ : ∃ O : Nat, r8V m 3 (2 ^ M) = (O : Int) := ⟨_, (Int.toNat_of_nonneg hso.1).symm⟩
  rw [hO] at hso hat
  have hOM : O < 2 ^ M := by have := hso.2; exact_mod_cast this
  obtain ⟨l, hl, hlM, hnM2, hnk, hol⟩ := v_any hdv.v hOM
  rw [hdv.l] at hnk
  have hy1 := xorI_w hM16 hOM hlM
  obtain ⟨R, hR⟩ : ∃ R, O ^^^ l = R := ⟨_, rfl⟩
  rw [hR] at hy1 hnM2 hnk hol
  have hy2 := xorI_w hM16 hOM hnM2
  rw [hol] at hy2
  have hRp : (0 : Int) ≤ R ∧ (R : Int) < 2 ^ M := ⟨by omega, by exact_mod_cast hnM2⟩
  have hYX := impl_FarOfBits_c W (Y : Int) (X : Int) (by omega) (Int.lt_of_lt_of_le hYM hpM.2) (by omega) (Int.lt_of_lt_of_le hXM hpM.2)
  rw [hf] at hYX
  have hpm : wrap64 (2 ^ M) = 2 ^ M := (wrap16 (M := M) hM16).2.1
  have hcm : IntKind.u64.wrap (M : Int) = (M : Int) := IntWalk.u64_in _ (by omega)
  have HCAN2 := Lib.hid (can_yes hdv.v hRp.1 hRp.2)
  have HFA := Lib.hid hYX
  have HB5 := Lib.hid hat
  have HC20 := Lib.hid hC
  have HE20 := Lib.hid hE
  have HP20 := Lib.hid hp17
  have HW20 := Lib.hid hp20
  have HDV := Lib.hid hdv
  have HSO := Lib.hid hso
  have HLD2 := Lib.hid hl
  have HNK := Lib.hid hnk
  have HY1 := Lib.hid hy1
  have HY2 := Lib.hid hy2
  have HRP := Lib.hid hRp
  have HPM := Lib.hid hpM
  have HLL := Lib.hid hLL
  have HL0 := Lib.hid hL0
  have HQQ := Lib.hid hQ
  clear hso hO hl hlM hnM2 hnk hol hy1 hy2 hR hRp hC hE hp17 hp20 hOM hpM hXM hYM hf hat hLL hL0 hQ hYX
  obtain ⟨C0, C1⟩ := HC20.out.cells
  conv => arg 2; whnf
  go_wp2_with fail
  refine HFA.out.mono ?_
  rintro e w' ⟨rfl, rfl⟩
  go_wp2_with fail
  refine HB5.out.mono ?_
  rintro e w' ⟨rfl, rfl⟩
  go_wp2_with fail
  refine (impl_MendWord_c W M _ n cap xs HDV.out HC20.out.sl O HSO.out.1 HSO.out.2).mono ?_
  rintro e w21 ⟨rfl, b21⟩
  rw [HLD2.out, HY1.out]
  have HC21 := Lib.hid (HC20.out.next b21)
  have HE21 := Lib.hid (HE20.out.next b21)
  have HP21 := Lib.hid (own_below HP20.out b21 (Nat.le_refl _))
  have HW21 := Lib.hid (own_below HW20.out b21 (Nat.le_refl _))
  have HB21 := Lib.hid (hB.trans (b21.mono hB.size))
  clear C0 C1 b21
  obtain ⟨C0, C1⟩ := HC21.out.cells
  go_wp2_with fail
  refine (impl_InCode_c w21 M A n cap xs HDV.out.l hn8 HC21.out.sl R HCAN2.out HNK.out).mono ?_
  rintro e w22 ⟨rfl, b22⟩
  have HE22 := Lib.hid (HE21.out.next b22)
  have hp22 := own_below HP21.out b22 (Nat.le_refl _)
  have hw22 := own_below HW21.out b22 (Nat.le_refl _)
  have HB22 := Lib.hid (HB21.out.trans (b22.mono HB21.out.size))
  have HFB := Lib.hid (impl_FarOfBits_c w22 (O : Int) (R : Int) HSO.out.1 (Int.lt_of_lt_of_le HSO.out.2 HPM.out.2) HRP.out.1 (Int.lt_of_lt_of_le HRP.out.2 HPM.out.2))
  rw [HY2.out] at HFB
  have hq0 : 0 < LL.length := by rw [HLL.out, ← HQQ.out]; exact Nat.pow_pos (by decide)
  obtain ⟨bL, oL, hA17, -, hcL⟩ := sl_cells (sl_of_own hp22) hq0
  have hcL0 : w22.cell? ⟨bL, oL, none⟩ = some (.int .i64 0) := by have := hcL 0 hq0; rw [HL0.out] at this; exact this
  obtain ⟨bW, oW, hA20, -, hcW⟩ := sl_cells (sl_of_own hw22) (by simp)
  have hcW0 : w22.cell? ⟨bW, oW, none⟩ = some (.int .i64 X) := hcW 0 (by simp)
  have hcW1 : w22.cell? ⟨bW, oW + 1, none⟩ = some (.int .i64 X) := hcW 1 (by simp)
  subst hA17 hA20
  have hQ1 : 1 ≤ Q := by rw [← HQQ.out]; exact Nat.pow_pos (by decide)
  have hcd : IntKind.u64.wrap (dn : Int) = (dn : Int) := IntWalk.u64_in _ (by omega)
  have hpd : wrap64 (2 ^ dn) = (Q : Int) := by rw [(wrap16 (M := dn) (by omega)).2.1, ← HQQ.out]; push_cast; rfl
  clear C0 C1 b22 hcL hcW hp22 hw22 hq0
  obtain ⟨D0, D1⟩ := HE22.out.cells
  go_wp2_with fail
  refine HFB.out.mono ?_
  rintro e w' ⟨rfl, rfl⟩
  go_wp2
  go_ret
  exact ⟨rfl, HB22.out⟩

end Go.Proofs.Ytldnhflgpbcmeaa
