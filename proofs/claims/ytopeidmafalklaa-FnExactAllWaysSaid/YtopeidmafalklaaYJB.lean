/-
  Contract: all ways, of the reference: the part backward and what follows.
  Conditions: lengths at most 1048576.
-/
import Derived.Test.YtopeidmafalklaaYJA
import Derived.Deep.RegionLaw
import Derived.Deep.Cut
namespace Go.Proofs.Ytopeidmafalklaa
open Go.RowKit Go.Shelf


set_option maxRecDepth 1000000 in
set_option maxHeartbeats 8000000 in
theorem tail25 (w w6 wA : World) (M : Nat) (hM1 : 1 ≤ M) (hM4 : M ≤ 4) (A : Option Addr) (k cap : Nat) (ms : List Int) (hl : ms.length = k) (hk1 : 1 ≤ k) (hk4 : k ≤ 4) (hr : ∀ x ∈ ms, 0 ≤ x ∧ x ≤ 31)
    (A2 : Option Addr) (n2 cap2 : Nat) (xs : List Nat) (hl2 : xs.length = n2) (hcap : n2 ≤ cap2) (n N S g cg : Nat) (bs : List Nat) (hn : n ≤ 40) (hnN : n ≤ N) (hN44 : N ≤ 44) (hS16 : S ≤ 16) (hS1 : 1 ≤ S)
    (HSS : Hid (2 ^ M = S)) (HN : Hid (n + M = N)) (HNNN : Hid (N * k = n2)) (HNO : Hid (outT M ms xs n n = none → allOk (M : Int) ms xs = false)) (HYES : Hid (∀ l, outT M ms xs n n = some l → allOk (M : Int) ms xs = l.all finB ∧ (l.all finB = true → allL (M : Int) ms xs = l)))
    (HB6 : Hid (Below w.heap.size w w6)) (hz6 : w.heap.size < w6.heap.size) (HO6 : Hid (Obj w6 w.heap.size 29 #[.int .i64 (M : Int), .slice A k cap])) (HX6 : Hid (Sl w6 w.heap.size A (ms.map (Value.int .i64)))) (HY6 : Hid (Sl w6 w.heap.size A2 (xs.map (Value.float .f32))))
    (hbr : Below w6.heap.size w6 wA) (hgA : g < wA.heap.size) (HGA : Hid (∀ i, i < N + 1 → wA.cell? ⟨g, i, none⟩ = some (rV S (bs.getD i 0)))) (HBL : Hid (bs.length = N + 1)) (HAR : Hid (AR 71 68 w6.heap.size S (fwdT M ms xs n) wA (.slice (some ⟨g, 0, none⟩) (N + 1) cg) bs))
    (w9 : World) (hB0 : BRel 71 68 wA S N (bwdT M ms xs n) N w9)
    (K0 : Act → World → Prop) (hK0 : ∀ a w', Code.wp Try.prog beh25 (bodyPost Try.prog Try.f6 (AllPost w (M : Int) ms xs)) a w' → K0 a w')
    (u0 u3 u4 u5 u10 u11 u12 u13 u14 u17 u18 u19 u20 u21 u22 u23 u24 u25 u26 u27 u28 u29 u30 u31 u32 u33 u34 u35 u36 u37 u38 u39 u40 u41 u42 u43 u44 u45 u46 u47 u48 u49 u50 u51 u52 u53 u54 u55 u56 u57 u58 u59 u60 u61 u62 u63 u64 u65 u66 u67 u68 u69 u70 u71 u72 u73 u74 u75 u76 u77 u78 u79 u80 u81 u82 u83 u84 u85 u86 u87 u88 u89 u90 u91 u92 u93 u94 u95 u96 u97 u98 u99 u100 u101 u102 u103 u104 u105 u106 u107 u108 u109 u110 u111 u112 u113 u114 u115 u116 u117 u118 u119 u120 u121 u122 u123 u124 u125 u126 u127 u128 u129 u130 u131 u132 u133 u134 u135 u136 u137 u138 u139 u140 u141 u142 u143 u144 u145 u146 u147 u148 u149 u150 u151 u152 u153 u154 u155 u156 u157 u158 u159 u160 u161 u162 u163 u164 u165 u166 u167 u168 u169 u170 u171 u172 u173 u174 u175 u176 u177 u178 u179 u180 u181 u182 u183 u184 u185 u186 u187 u188 u189 u190 u191 u192 u193 u194 u195 u196 u197 u198 u199 u200 u201 u202 u203 u204 u205 u206 u207 u208 u209 u210 u211 u212 u213 u214 u215 u216 u217 u218 u219 u220 u221 u222 u223 u224 u225 u226 u227 u228 u229 u230 u231 u232 u233 u234 u235 u236 u237 u238 u239 u240 u241 u242 u243 u244 u245 u246 u247 u248 u249 u250 u251 u252 u253 u254 u255 u256 u257 u258 u259 u260 u261 u262 u263 u264 u265 u266 u267 u268 u269 u270 u271 u272 u273 u274 u275 u276 u277 u278 u279 u280 u281 u282 u283 u284 u285 u286 u287 u288 u289 u290 u291 u292 u293 u294 u295 u296 u297 u298 u299 u300 u301 u302 u303 u304 u305 : Value) :
    Code.wp Try.prog blk25 (Exit.then K0 (bodyPost Try.prog Try.f6 (AllPost w (M : Int) ms xs))) ⟨#[u0, .slice A2 n2 cap2, .pointer (some ⟨w.heap.size, 0, none⟩), u3, u4, u5, .int .i64 (n : Int), .int .i64 (N : Int), .int .i64 (S : Int), .slice (some ⟨g, 0, none⟩) (N + 1) cg, u10, u11, u12, u13, u14, .slice (some ⟨wA.heap.size, 0, none⟩) (N + 1) (N + 1), .int .i64 ((N : Int) - 1), u17, u18, u19, u20, u21, u22, u23, u24, u25, u26, u27, u28, u29, u30, u31, u32, u33, u34, u35, u36, u37, u38, u39, u40, u41, u42, u43, u44, u45, u46, u47, u48, u49, u50, u51, u52, u53, u54, u55, u56, u57, u58, u59, u60, u61, u62, u63, u64, u65, u66, u67, u68, u69, u70, u71, u72, u73, u74, u75, u76, u77, u78, u79, u80, u81, u82, u83, u84, u85, u86, u87, u88, u89, u90, u91, u92, u93, u94, u95, u96, u97, u98, u99, u100, u101, u102, u103, u104, u105, u106, u107, u108, u109, u110, u111, u112, u113, u114, u115, u116, u117, u118, u119, u120, u121, u122, u123, u124, u125, u126, u127, u128, u129, u130, u131, u132, u133, u134, u135, u136, u137, u138, u139, u140, u141, u142, u143, u144, u145, u146, u147, u148, u149, u150, u151, u152, u153, u154, u155, u156, u157, u158, u159, u160, u161, u162, u163, u164, u165, u166, u167, u168, u169, u170, u171, u172, u173, u174, u175, u176, u177, u178, u179, u180, u181, u182, u183, u184, u185, u186, u187, u188, u189, u190, u191, u192, u193, u194, u195, u196, u197, u198, u199, u200, u201, u202, u203, u204, u205, u206, u207, u208, u209, u210, u211, u212, u213, u214, u215, u216, u217, u218, u219, u220, u221, u222, u223, u224, u225, u226, u227, u228, u229, u230, u231, u232, u233, u234, u235, u236, u237, u238, u239, u240, u241, u242, u243, u244, u245, u246, u247, u248, u249, u250, u251, u252, u253, u254, u255, u256, u257, u258, u259, u260, u261, u262, u263, u264, u265, u266, u267, u268, u269, u270, u271, u272, u273, u274, u275, u276, u277, u278, u279, u280, u281, u282, u283, u284, u285, u286, u287, u288, u289, u290, u291, u292, u293, u294, u295, u296, u297, u298, u299, u300, u301, u302, u303, u304, u305], []⟩ w9 := by
  have hbw6 := HB6.out
  obtain ⟨c0, hc0⟩ : ∃ c, beh25 = c := ⟨_, rfl⟩
  rw [hc0] at hK0
  conv at hc0 => lhs; whnf
  subst hc0
  conv => arg 2; whnf
  go_wp2
  go_loopw [16] (fun i wr => ∃ (t : Nat) (m : Int), t ≤ N ∧ m = (t : Int) - 1 ∧ i = .int .i64 m ∧ BRel 71 68 wA S N (bwdT M ms xs n) t wr) (fun i _ => (intOf i + 1).toNat)
  case atStart => exact ⟨N, (N : Int) - 1, Nat.le_refl _, rfl, rfl, hB0⟩
  case round =>
    obtain ⟨t, m, ht, hm, rfl, hB⟩ := hrel
    obtain ⟨wB, rfl⟩ : ∃ q : World, q = wr := ⟨_, rfl⟩
    have hbA6 := hbr.size
    cases t with
    | succ t =>
      obtain rfl : m = (t : Int) := by omega
      clear hm
      obtain ⟨hbz, ⟨uu, c0⟩, f0, b1, hb1, hb1z, hX⟩ := hB.start (by omega)
      obtain ⟨_, _, _, _, hBb⟩ := hB
      obtain ⟨wX, eX⟩ : ∃ q : World, q = (wB.setCell ⟨wA.heap.size, t, none⟩ (.slice (some ⟨wB.heap.size, 0, none⟩) S S)).alloc (.cells (madeCells #[Value.bool false, .float .f32 0] (S * 2)) 71) := ⟨_, rfl⟩
      obtain ⟨aX0, aX1, tX, sX, zX, hEnd⟩ := hX wX eX
      unfold rV at aX0 aX1
      obtain ⟨pt, ept⟩ : ∃ pt, partL k xs t = pt := ⟨_, rfl⟩
      obtain ⟨la, ela⟩ : ∃ la, decide (n ≤ t) = la := ⟨_, rfl⟩
      obtain ⟨T, eT⟩ : ∃ T, bwdT M ms xs n (N - (t + 1)) = T := ⟨_, rfl⟩
      have htab : bwdT M ms xs n (N - t) = bwdR M ms pt la T S := by
        have h9 : N - t = (N - (t + 1)) + 1 := by omega
        rw [h9, ← HSS.out, ← ept, ← ela, ← eT, ← hl]
        show bwdR M ms (partL ms.length xs (n + M - 1 - (N - (t + 1)))) (decide (n ≤ n + M - 1 - (N - (t + 1)))) _ _ = _
        rw [show n + M - 1 - (N - (t + 1)) = t by have := HN.out; omega]
      rw [eT] at tX
      rw [htab] at hEnd
      have hlo3 : (t + 1) * k ≤ n2 := by rw [← HNNN.out]; exact Nat.mul_le_mul_right k (by omega)
      have hbB6 : Below w6.heap.size w6 wB := hbr.trans (hBb.mono hbA6)
      have hzB := hbB6.size
      have hbX6 : Below w6.heap.size w6 wX := by rw [eX]; exact (Below.setCell (p := ⟨wA.heap.size, t, none⟩) hbB6 hbA6 _).alloc (by simp; omega) _
      have HHALF : Hid (∀ W, Below w6.heap.size w6 W → ∀ (s : Nat), s ≤ 15 → ∀ c : Bool, Calls Try.prog 39 #[.pointer (some ⟨w.heap.size, 0, none⟩), .slice A2 n2 cap2, .int .i64 (t : Int), .int .i64 (s : Int), .bool c] W fun e w' => ∃ v, e = .returned (.float .f32 v) ∧ fl .f32 v = halfO ms pt s c ∧ Below W.heap.size W w') :=
        Lib.hid fun W hW s hs c => by
          rw [← ept]
          have bw := HB6.out.trans (hW.mono HB6.out.size)
          exact spec_l07Half_c W w.heap.size A k cap ms hl hk1 hk4 hr (Nat.lt_of_lt_of_le hz6 hW.size) (((hW.cell (p := ⟨w.heap.size, 1, none⟩) hz6)).trans (HO6.out.cell 1)) ((HX6.out.below (hW.mono HB6.out.size)).more bw.size) A2 n2 cap2 xs hl2 ((HY6.out.below (hW.mono HB6.out.size)).more bw.size) hcap t hlo3 (by omega) s hs c
      have HTX := Lib.hid tX
      have HSX := Lib.hid sX
      have HEND := Lib.hid hEnd
      have HLA := Lib.hid ela
      have HA0 := Lib.hid aX0
      have HA1 := Lib.hid aX1
      have HBX6 := Lib.hid hbX6
      have htN : (t : Int) < (N : Int) + 1 := by omega
      have htN1 : (t : Int) + 1 < (N : Int) + 1 := by omega
      have hwt : IntKind.i64.wrap ((t : Int) + 1) = (t : Int) + 1 := IntWalk.i64_in _ (by omega)
      have hwn : ((t : Int) + 1).toNat = t + 1 := by omega
      have hwp : (0 : Int) ≤ (t : Int) + 1 := by omega
      have hmk := fun W : World => run_mkSum S (Nat.le_trans hS16 (by decide)) .i64 .i64 W
      clear tX sX hEnd htab ela ept eT aX0 aX1 hX hbX6 hBb hbB6
      go_wp2_with (rw [← eX]; clear eX)
      clear c0 f0
      go_loopw [17] (fun i wr => ∃ s : Nat, s ≤ S ∧ i = .int .i64 s ∧ SRow 71 wr wB.heap.size S (bwdR M ms pt la T s) ∧ Below wB.heap.size wX wr) (fun i _ => S - (intOf i).toNat)
      case atStart =>
        refine ⟨0, Nat.zero_le _, rfl, ?_, (Below.refl wX.heap.size wX).mono (by omega)⟩
        show SRow _ _ _ _ (noneR (2 ^ M))
        rw [HSS.out]
        exact HSX.out
      case round =>
        obtain ⟨s, hs, rfl, hr0, hb⟩ := hrel
        obtain ⟨wC, rfl⟩ : ∃ q : World, q = wr := ⟨_, rfl⟩
        have HR0 := Lib.hid hr0
        have HB0 := Lib.hid hb
        clear hr0 hb
        by_cases hlt2 : s < S
        · go_wp2
          go_loopw [18] (fun i wr => ∃ j : Nat, j ≤ 2 ∧ i = .int .i64 j ∧ SRow 71 wr wB.heap.size S (bbT M ms pt la T s j) ∧ Below wB.heap.size wX wr) (fun i _ => 2 - (intOf i).toNat)
          case atStart => exact ⟨0, by omega, rfl, HR0.out, HB0.out⟩
          case round =>
            clear HR0 HB0
            obtain ⟨j, hj, rfl, hr0, hbE⟩ := hrel
            obtain ⟨wE, rfl⟩ : ∃ q : World, q = wr := ⟨_, rfl⟩
            have HR := Lib.hid hr0
            have hb6 : Below w6.heap.size w6 wE := HBX6.out.trans (hbE.mono hzB)
            clear hr0
            rcases (show j = 0 ∨ j = 1 ∨ j = 2 by omega) with rfl | rfl | rfl
            · skip
              obtain ⟨to, eto⟩ : ∃ to, toS M s false = to := ⟨_, rfl⟩
              have hto : to < S := by rw [← eto, ← HSS.out]; exact toS_lt false
              have htv : (2 * (s : Int) + bitI false) % 2 ^ M = (to : Int) := by rw [← eto]; exact toS_eq M s false
              have HTV := Lib.hid htv
              have HTO := Lib.hid eto
              clear htv eto
              have cd0 := (hb6.cell (p := ⟨w.heap.size, 0, none⟩) hz6).trans (HO6.out.cell 0)
              have HCD := Lib.hid cd0
              clear cd0
              go_wp2_with fail
              refine (spec_l07Next_c wE w.heap.size M s false (by omega) (by omega) hM1 hM4 HCD.out).mono ?_
              rintro e w' ⟨rfl, q1, rfl⟩
              rw [HTV.out]
              obtain ⟨wD, eD⟩ : ∃ W : World, W = wE.drewN q1 := ⟨_, rfl⟩
              rw [← eD]
              have rD : SRow 71 wD wB.heap.size S (bbT M ms pt la T s 0) := by rw [eD]; exact HR.out.drewN _
              have bD : Below wB.heap.size wX wD := by rw [eD]; exact below_drewN hbE _
              have b6D : Below w6.heap.size w6 wD := HBX6.out.trans (bD.mono hzB)
              have tD : SRow 71 wD b1 S T := HTX.out.below bD hb1z
              have c0 := (bD.cell (p := ⟨wA.heap.size, t, none⟩) hbz).trans HA0.out
              have c1 := (bD.cell (p := ⟨wA.heap.size, t + 1, none⟩) hbz).trans HA1.out
              obtain ⟨f2, y2, g0, g1, hg⟩ := tD.cells hto
              obtain ⟨f1, y1, d0, d1, hd⟩ := rD.cells hlt2
              have zD := bD.size
              cases f2
              · have hstep : bbT M ms pt la T s (0 + 1) = bbT M ms pt la T s 0 := by
                  have h9 := bbT_step (M := M) (ms := ms) (part := pt) (last := la) (a := T) (s := s) false
                  rw [bwdE_not (by rw [HTO.out]; exact hg.symm)] at h9
                  exact h9
                have HSTEP := Lib.hid hstep
                have HRD := Lib.hid rD
                clear hstep rD tD d0 d1 hd g1 hg eD
                go_wp2
                go_roundw
                case rel => exact ⟨0 + 1, by omega, by go_num, by rw [HSTEP.out]; exact HRD.out, bD⟩
                case measure => simp [intOf]
              · have HLD : Hid (∀ W, Below wD.heap.size wD W → W.cell? ⟨wA.heap.size, t, none⟩ = some (.slice (some ⟨wB.heap.size, 0, none⟩) S S) ∧ W.cell? ⟨wA.heap.size, t + 1, none⟩ = some (.slice (some ⟨b1, 0, none⟩) S S) ∧ W.cell? ⟨wB.heap.size, s * 2, none⟩ = some (.bool f1) ∧ W.cell? ⟨wB.heap.size, s * 2 + 1, none⟩ = some (.float .f32 y1) ∧ W.cell? ⟨b1, to * 2 + 1, none⟩ = some (.float .f32 y2)) :=
                  Lib.hid fun W hW => ⟨(hW.cell (p := ⟨wA.heap.size, t, none⟩) (by simp only []; omega)).trans c0, (hW.cell (p := ⟨wA.heap.size, t + 1, none⟩) (by simp only []; omega)).trans c1, (hW.cell (p := ⟨wB.heap.size, s * 2, none⟩) rD.lt).trans d0, (hW.cell (p := ⟨wB.heap.size, s * 2 + 1, none⟩) rD.lt).trans d1, (hW.cell (p := ⟨b1, to * 2 + 1, none⟩) tD.lt).trans g1⟩
                have HHF : Hid (∀ W, Below wD.heap.size wD W → Calls Try.prog 39 #[.pointer (some ⟨w.heap.size, 0, none⟩), .slice A2 n2 cap2, .int .i64 (t : Int), .int .i64 (s : Int), .bool false] W fun e w' => ∃ v, e = .returned (.float .f32 v) ∧ fl .f32 v = halfO ms pt s false ∧ Below W.heap.size W w') :=
                  Lib.hid fun W hW => HHALF.out W (b6D.trans (hW.mono b6D.size)) s (by omega) false
                clear d0 d1 g1 eD
                go_wp2_with fail
                clear c0 c1 g0
                refine wp_region_B (RvS (halfO ms pt s false)) 30 (D := wD.heap.size) (w0 := wD) (by kernel_rfl) (by kernel_rfl) (Below.refl _ _) ?_
                simp only [List.take_succ_cons, List.take_zero, List.drop_succ_cons, List.drop_zero]
                iterate 26 (refine wpRel_step (fun K hK => ?_); go_simp; intro W hW; obtain ⟨q0, q1, q2, q3, q4⟩ := HLD.out W hW; (try go_simp); (first | refine ⟨hW, hK _ ?_⟩ | refine hK _ ?_); clear q0 q1 q2 q3 q4 hK K hW W)
                refine wpRel_step (fun K hK => ?_)
                go_simp
                intro W hW
                refine ⟨half_B (Nat.le_refl _) hW (HHF.out W hW), fun v hv => ?_⟩
                obtain ⟨x3, rfl, hx3⟩ := rv_half hv
                refine hK _ ?_
                clear hK K hW W hv
                refine wpRel_step (fun K hK => ?_)
                go_simp
                intro W hW
                refine ⟨below_drewN hW _, hK _ ?_⟩
                clear hK K
                obtain ⟨z4, ez4⟩ : ∃ z, fres .add .f32 y2 x3 W.tape W.drawn = z := ⟨_, rfl⟩
                have Hz4 : Hid (fl .f32 z4 = fop .add .f32 (fl .f32 y2) (fl .f32 x3)) := Lib.hid (by rw [← ez4]; exact fl_fres ..)
                rw [ez4]
                clear ez4 hW W
                refine wpRel_step (fun K hK => ?_)
                go_simp
                intro W hW
                refine ⟨sjoin_B (Nat.le_refl _) hW _ _ _, fun v hv => ?_⟩
                obtain ⟨z5, rfl, hz5⟩ := rv_sjoin hv
                refine hK _ ?_
                clear hK K hW W hv
                iterate 1 (refine wpRel_step (fun K hK => ?_); go_simp; intro W hW; obtain ⟨q0, q1, q2, q3, q4⟩ := HLD.out W hW; (try go_simp); (first | refine ⟨hW, hK _ ?_⟩ | refine hK _ ?_); clear q0 q1 q2 q3 q4 hK K hW W)
                refine wpRel_nil ?_
                intro W hW
                have rW := rD.below hW rD.lt
                obtain ⟨f3, y3, t0, t1, _⟩ := rW.cells hlt2
                have u0 := rW.frz (s * 2)
                have u1 := rW.frz (s * 2 + 1)
                have HRW := Lib.hid rW
                have HV : Hid (stO true z5 = joinS ((bbT M ms pt la T s 0).getD s none) (plusS (T.getD to none) (halfO ms pt s false))) := Lib.hid (by rw [hz5, Hz4.out, hx3, hd, ← hg]; rfl)
                have hbWW : Below wB.heap.size wX W := bD.trans (hW.mono (by omega))
                clear rW hz5 hx3
                go_wp2
                go_roundw
                case rel =>
                  refine ⟨0 + 1, by omega, by go_num, ?_, Below.setCell (p := ⟨wB.heap.size, s * 2 + 1, none⟩) (Below.setCell (p := ⟨wB.heap.size, s * 2, none⟩) hbWW (Nat.le_refl _) _) (Nat.le_refl _) _⟩
                  have h9 := bbT_step (M := M) (ms := ms) (part := pt) (last := la) (a := T) (s := s) false
                  rw [bwdE_yes (show (false && la) = false from rfl), HTO.out] at h9
                  have h8 := SRow.put HRW.out (to := s) hlt2 true z5 _ HV.out
                  have e9 : bbT M ms pt la T s (0 + 1) = ((bbT M ms pt la T s 0).set s (joinS ((bbT M ms pt la T s 0).getD s none) (plusS (T.getD to none) (halfO ms pt s false)))) := h9
                  rw [e9]
                  exact h8
                case measure => simp [intOf]
            · cases la
              · have hnt : ¬ n ≤ t := of_decide_eq_false HLA.out
                obtain ⟨to, eto⟩ : ∃ to, toS M s true = to := ⟨_, rfl⟩
                have hto : to < S := by rw [← eto, ← HSS.out]; exact toS_lt true
                have htv : (2 * (s : Int) + bitI true) % 2 ^ M = (to : Int) := by rw [← eto]; exact toS_eq M s true
                have HTV := Lib.hid htv
                have HTO := Lib.hid eto
                clear htv eto
                have cd0 := (hb6.cell (p := ⟨w.heap.size, 0, none⟩) hz6).trans (HO6.out.cell 0)
                have HCD := Lib.hid cd0
                clear cd0
                go_wp2_with fail
                refine (spec_l07Next_c wE w.heap.size M s true (by omega) (by omega) hM1 hM4 HCD.out).mono ?_
                rintro e w' ⟨rfl, q1, rfl⟩
                rw [HTV.out]
                obtain ⟨wD, eD⟩ : ∃ W : World, W = wE.drewN q1 := ⟨_, rfl⟩
                rw [← eD]
                have rD : SRow 71 wD wB.heap.size S (bbT M ms pt false T s 1) := by rw [eD]; exact HR.out.drewN _
                have bD : Below wB.heap.size wX wD := by rw [eD]; exact below_drewN hbE _
                have b6D : Below w6.heap.size w6 wD := HBX6.out.trans (bD.mono hzB)
                have tD : SRow 71 wD b1 S T := HTX.out.below bD hb1z
                have c0 := (bD.cell (p := ⟨wA.heap.size, t, none⟩) hbz).trans HA0.out
                have c1 := (bD.cell (p := ⟨wA.heap.size, t + 1, none⟩) hbz).trans HA1.out
                obtain ⟨f2, y2, g0, g1, hg⟩ := tD.cells hto
                obtain ⟨f1, y1, d0, d1, hd⟩ := rD.cells hlt2
                have zD := bD.size
                cases f2
                · have hstep : bbT M ms pt false T s (1 + 1) = bbT M ms pt false T s 1 := by
                    have h9 := bbT_step (M := M) (ms := ms) (part := pt) (last := false) (a := T) (s := s) true
                    rw [bwdE_not (by rw [HTO.out]; exact hg.symm)] at h9
                    exact h9
                  have HSTEP := Lib.hid hstep
                  have HRD := Lib.hid rD
                  clear hstep rD tD d0 d1 hd g1 hg eD
                  go_wp2
                  go_roundw
                  case rel => exact ⟨1 + 1, by omega, by go_num, by rw [HSTEP.out]; exact HRD.out, bD⟩
                  case measure => simp [intOf]
                · have HLD : Hid (∀ W, Below wD.heap.size wD W → W.cell? ⟨wA.heap.size, t, none⟩ = some (.slice (some ⟨wB.heap.size, 0, none⟩) S S) ∧ W.cell? ⟨wA.heap.size, t + 1, none⟩ = some (.slice (some ⟨b1, 0, none⟩) S S) ∧ W.cell? ⟨wB.heap.size, s * 2, none⟩ = some (.bool f1) ∧ W.cell? ⟨wB.heap.size, s * 2 + 1, none⟩ = some (.float .f32 y1) ∧ W.cell? ⟨b1, to * 2 + 1, none⟩ = some (.float .f32 y2)) :=
                    Lib.hid fun W hW => ⟨(hW.cell (p := ⟨wA.heap.size, t, none⟩) (by simp only []; omega)).trans c0, (hW.cell (p := ⟨wA.heap.size, t + 1, none⟩) (by simp only []; omega)).trans c1, (hW.cell (p := ⟨wB.heap.size, s * 2, none⟩) rD.lt).trans d0, (hW.cell (p := ⟨wB.heap.size, s * 2 + 1, none⟩) rD.lt).trans d1, (hW.cell (p := ⟨b1, to * 2 + 1, none⟩) tD.lt).trans g1⟩
                  have HHF : Hid (∀ W, Below wD.heap.size wD W → Calls Try.prog 39 #[.pointer (some ⟨w.heap.size, 0, none⟩), .slice A2 n2 cap2, .int .i64 (t : Int), .int .i64 (s : Int), .bool true] W fun e w' => ∃ v, e = .returned (.float .f32 v) ∧ fl .f32 v = halfO ms pt s true ∧ Below W.heap.size W w') :=
                    Lib.hid fun W hW => HHALF.out W (b6D.trans (hW.mono b6D.size)) s (by omega) true
                  clear d0 d1 g1 eD
                  go_wp2_with fail
                  clear c0 c1 g0
                  refine wp_region_B (RvS (halfO ms pt s true)) 30 (D := wD.heap.size) (w0 := wD) (by kernel_rfl) (by kernel_rfl) (Below.refl _ _) ?_
                  simp only [List.take_succ_cons, List.take_zero, List.drop_succ_cons, List.drop_zero]
                  iterate 26 (refine wpRel_step (fun K hK => ?_); go_simp; intro W hW; obtain ⟨q0, q1, q2, q3, q4⟩ := HLD.out W hW; (try go_simp); (first | refine ⟨hW, hK _ ?_⟩ | refine hK _ ?_); clear q0 q1 q2 q3 q4 hK K hW W)
                  refine wpRel_step (fun K hK => ?_)
                  go_simp
                  intro W hW
                  refine ⟨half_B (Nat.le_refl _) hW (HHF.out W hW), fun v hv => ?_⟩
                  obtain ⟨x3, rfl, hx3⟩ := rv_half hv
                  refine hK _ ?_
                  clear hK K hW W hv
                  refine wpRel_step (fun K hK => ?_)
                  go_simp
                  intro W hW
                  refine ⟨below_drewN hW _, hK _ ?_⟩
                  clear hK K
                  obtain ⟨z4, ez4⟩ : ∃ z, fres .add .f32 y2 x3 W.tape W.drawn = z := ⟨_, rfl⟩
                  have Hz4 : Hid (fl .f32 z4 = fop .add .f32 (fl .f32 y2) (fl .f32 x3)) := Lib.hid (by rw [← ez4]; exact fl_fres ..)
                  rw [ez4]
                  clear ez4 hW W
                  refine wpRel_step (fun K hK => ?_)
                  go_simp
                  intro W hW
                  refine ⟨sjoin_B (Nat.le_refl _) hW _ _ _, fun v hv => ?_⟩
                  obtain ⟨z5, rfl, hz5⟩ := rv_sjoin hv
                  refine hK _ ?_
                  clear hK K hW W hv
                  iterate 1 (refine wpRel_step (fun K hK => ?_); go_simp; intro W hW; obtain ⟨q0, q1, q2, q3, q4⟩ := HLD.out W hW; (try go_simp); (first | refine ⟨hW, hK _ ?_⟩ | refine hK _ ?_); clear q0 q1 q2 q3 q4 hK K hW W)
                  refine wpRel_nil ?_
                  intro W hW
                  have rW := rD.below hW rD.lt
                  obtain ⟨f3, y3, t0, t1, _⟩ := rW.cells hlt2
                  have u0 := rW.frz (s * 2)
                  have u1 := rW.frz (s * 2 + 1)
                  have HRW := Lib.hid rW
                  have HV : Hid (stO true z5 = joinS ((bbT M ms pt false T s 1).getD s none) (plusS (T.getD to none) (halfO ms pt s true))) := Lib.hid (by rw [hz5, Hz4.out, hx3, hd, ← hg]; rfl)
                  have hbWW : Below wB.heap.size wX W := bD.trans (hW.mono (by omega))
                  clear rW hz5 hx3
                  go_wp2
                  go_roundw
                  case rel =>
                    refine ⟨1 + 1, by omega, by go_num, ?_, Below.setCell (p := ⟨wB.heap.size, s * 2 + 1, none⟩) (Below.setCell (p := ⟨wB.heap.size, s * 2, none⟩) hbWW (Nat.le_refl _) _) (Nat.le_refl _) _⟩
                    have h9 := bbT_step (M := M) (ms := ms) (part := pt) (last := false) (a := T) (s := s) true
                    rw [bwdE_yes (show (true && false) = false from rfl), HTO.out] at h9
                    have h8 := SRow.put HRW.out (to := s) hlt2 true z5 _ HV.out
                    have e9 : bbT M ms pt false T s (1 + 1) = ((bbT M ms pt false T s 1).set s (joinS ((bbT M ms pt false T s 1).getD s none) (plusS (T.getD to none) (halfO ms pt s true)))) := h9
                    rw [e9]
                    exact h8
                  case measure => simp [intOf]
              · have hnt : n ≤ t := of_decide_eq_true HLA.out
                have hstep : bbT M ms pt true T s (1 + 1) = bbT M ms pt true T s 1 := (bbT_step true).trans bwdE_last
                have HSTEP := Lib.hid hstep
                have cd0 := (hb6.cell (p := ⟨w.heap.size, 0, none⟩) hz6).trans (HO6.out.cell 0)
                have HCD := Lib.hid cd0
                clear hstep cd0
                go_wp2_with fail
                refine (spec_l07Next_c wE w.heap.size M s true (by omega) (by omega) hM1 hM4 HCD.out).mono ?_
                rintro e w' ⟨rfl, q1, rfl⟩
                go_wp2
                go_roundw
                case rel => exact ⟨1 + 1, by omega, by go_num, by rw [HSTEP.out]; exact HR.out, below_drewN hbE _⟩
                case measure => simp [intOf]
            · go_wp2
              go_roundw
              case rel => exact ⟨s + 1, by omega, by go_num, HR.out, hbE⟩
              case measure => simp [intOf]; omega
        · obtain rfl : s = S := by omega
          go_wp2
          go_roundw
          case rel => exact ⟨t, (t : Int) - 1, by omega, rfl, by go_num, HEND.out wC HB0.out HR0.out⟩
          case measure => show ((t : Int) - 1 + 1).toNat < ((t : Int) + 1).toNat; omega
    | zero =>
      obtain rfl : m = -1 := by omega
      clear hm
      go_upto_region 39 with fail
      refine wp_region_lit ?_
      refine wpList_step (fun K2 hK2 => ?_)
      go_simp
      refine hK2 _ _ ?_
      clear hK2 K2
      refine wpList_nil ?_
      go_simp
      refine (‹∀ (a : Act) (w : World), Code.wp Try.prog _ _ a w → _› _ _ ?_ : _)
      exact tail39 w w6 wA M hM1 hM4 A k cap ms hl hk1 hk4 hr A2 n2 cap2 xs hl2 hcap n N S g cg bs hn hnN hN44 hS16 hS1 HSS HN HNNN HNO HYES HB6 hz6 HO6 HX6 HY6 hbr hgA HGA HBL HAR wB _ hB (own_empty _ _ _ (Nat.le_refl _)) ((Below.refl _ _).alloc (Nat.le_refl _) _) _ ‹_› _ _ _ _ _ _ _ _ _ _ _ _ _ _ _ _ _ _ _ _ _ _ _ _ _ _ _ _ _ _ _ _ _ _ _ _ _ _ _ _ _ _ _ _ _ _ _ _ _ _ _ _ _ _ _ _ _ _ _ _ _ _ _ _ _ _ _ _ _ _ _ _ _ _ _ _ _ _ _ _ _ _ _ _ _ _ _ _ _ _ _ _ _ _ _ _ _ _ _ _ _ _ _ _ _ _ _ _ _ _ _ _ _ _ _ _ _ _ _ _ _ _ _ _ _ _ _ _ _ _ _ _ _ _ _ _ _ _ _ _ _ _ _ _ _ _ _ _ _ _ _ _ _ _ _ _ _ _ _ _ _ _ _ _ _ _ _ _ _ _ _ _ _ _ _ _ _ _ _ _ _ _ _ _ _ _ _ _ _ _ _ _ _ _ _ _ _ _ _ _ _ _ _ _ _ _ _ _ _ _ _ _ _ _ _ _ _ _ _ _ _ _ _ _ _ _ _ _ _ _ _ _ _ _ _ _ _ _ _ _ _ _ _ _ _ _ _ _ _ _ _ _ _ _ _ _ _ _ _ _ _ _ _ _ _ _ _ _ _ _ _ _ _ _ _ _ _ _ _ _ _ _ _ _ _ _ _ _ _ _ _ _ _ _ _ _ _ _

end Go.Proofs.Ytopeidmafalklaa
