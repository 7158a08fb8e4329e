/-
  Contract: all ways, of the reference: the last part.
  Conditions: lengths at most 1048576.
-/
import Derived.Test.YtopeidmafalklaaYI
import Derived.Test.YtopeidmafalklaaYE
import Derived.Test.YtopeidmafalklaaRG
import Derived.Deep.RegionLaw
import Derived.Deep.Cut
namespace Go.Proofs.Ytopeidmafalklaa
open Go.RowKit Go.Shelf


/-- the rows of a table's round -/
def FwdRel (w : World) (S : Nat) (F : Nat → List St) (N : Nat) (v : Value) (wr : World) : Prop :=
  ∃ bs : List Nat, bs.length = N ∧ AR 71 68 w.heap.size S F wr v bs ∧ Below w.heap.size w wr
theorem sfbT_sz {M : Nat} {ms : List Int} {part : List Nat} {last : Bool} {a : List St} {s : Nat} : ∀ j, (fbT M ms part last a s j).length = 2 ^ M
  | 0 => fwdR_len _
  | 1 => fwdE_len.trans (fwdR_len _)
  | _ + 2 => fwdR_len _

/-- what the calls of a region yield -/
def RvS (H : Option Nat) (f : FuncId) (args : Array Value) (v : Value) : Prop :=
  (f = 39 ∧ ∃ x, v = .float .f32 x ∧ fl .f32 x = H) ∨
  (f = 38 ∧ ∃ h x y z, args = #[.agg #[.bool h, .float .f32 x], .float .f32 y] ∧ v = .agg #[.bool true, .float .f32 z] ∧ stO true z = joinS (stO h x) (some (fl .f32 y)))
theorem sjoin_B {H : Option Nat} {D : Nat} {w0 W : World} (hD : D ≤ w0.heap.size) (hW : Below D w0 W) (h : Bool) (x y : Nat) : Calls Try.prog 38 #[.agg #[.bool h, .float .f32 x], .float .f32 y] W fun e w'' => ∃ v, e = .returned v ∧ RvS H 38 #[.agg #[.bool h, .float .f32 x], .float .f32 y] v ∧ Below D w0 w'' :=
  (spec_l07Join_c W h x y).mono fun _ _ ⟨z, h1, h2, h3⟩ => ⟨_, h1, .inr ⟨rfl, h, x, y, z, rfl, rfl, h2⟩, hW.trans (h3.mono (Nat.le_trans hD hW.size))⟩
theorem rv_sjoin {H : Option Nat} {h : Bool} {x y : Nat} {v : Value} (hv : RvS H 38 #[.agg #[.bool h, .float .f32 x], .float .f32 y] v) : ∃ z, v = .agg #[.bool true, .float .f32 z] ∧ stO true z = joinS (stO h x) (some (fl .f32 y)) := by
  rcases hv with ⟨e, _⟩ | ⟨_, h', x', y', z, e, rfl, e2⟩
  · exact absurd e (by decide)
  · simp only [Array.mk.injEq, List.cons.injEq, Value.agg.injEq, Value.bool.injEq, Value.float.injEq, true_and, and_true] at e
    obtain ⟨⟨rfl, rfl⟩, rfl⟩ := e
    exact ⟨z, rfl, e2⟩
theorem rv_half {H : Option Nat} {args : Array Value} {v : Value} (hv : RvS H 39 args v) : ∃ x, v = .float .f32 x ∧ fl .f32 x = H := by
  rcases hv with ⟨_, h⟩ | ⟨e, _⟩
  · exact h
  · exact absurd e (by decide)
theorem half_B {H : Option Nat} {D : Nat} {w0 W : World} {args : Array Value} (hD : D ≤ w0.heap.size) (hW : Below D w0 W) (hc : Calls Try.prog 39 args W fun e w' => ∃ v, e = .returned (.float .f32 v) ∧ fl .f32 v = H ∧ Below W.heap.size W w') :
    Calls Try.prog 39 args W fun e w'' => ∃ v, e = .returned v ∧ RvS H 39 args v ∧ Below D w0 w'' :=
  hc.mono fun _ _ ⟨x, h1, h2, h3⟩ => ⟨_, h1, .inl ⟨rfl, x, rfl, h2⟩, hW.trans (h3.mono (Nat.le_trans hD hW.size))⟩

/-- what stands behind a region, within its own row -/
def inJ (n : Nat) : Code → Option Code
  | .seq (.region k _ _) b => if k == n then some b else inJ n b
  | .seq a b => match inJ n a with
    | some c => some c
    | none => inJ n b
  | _ => none
/-- what stands behind the row of a region -/
def behJ (n : Nat) : Code → Option Code
  | .seq (.seq (.region k x y) c) b => if k == n then some b else (match behJ n (.seq (.region k x y) c) with
    | some d => some d
    | none => behJ n b)
  | .seq a b => match behJ n a with
    | some c => some c
    | none => behJ n b
  | _ => none
noncomputable def blk39 : Code := ((Try.f6.body.bind (inJ 39)).getD .skip)
noncomputable def beh39 : Code := ((Try.f6.body.bind (behJ 39)).getD .skip)
noncomputable def blk25 : Code := ((Try.f6.body.bind (inJ 25)).getD .skip)
noncomputable def beh25 : Code := ((Try.f6.body.bind (behJ 25)).getD .skip)


set_option maxRecDepth 1000000 in
set_option maxHeartbeats 8000000 in
theorem tail39 (w w6 wA : World) (M : Nat) (hM1 : 1 ≤ M) (hM4 : M ≤ 4) (A : Option Addr) (k cap : Nat) (ms : List Int) (hl : ms.length = k) (hk1 : 1 ≤ k) (hk4 : k ≤ 4) (hr : ∀ x ∈ ms, 0 ≤ x ∧ x ≤ 31)
    (A2 : Option Addr) (n2 cap2 : Nat) (xs : List Nat) (hl2 : xs.length = n2) (hcap : n2 ≤ cap2) (n N S g cg : Nat) (bs : List Nat) (hn : n ≤ 40) (hnN : n ≤ N) (hN44 : N ≤ 44) (hS16 : S ≤ 16) (hS1 : 1 ≤ S)
    (HSS : Hid (2 ^ M = S)) (HN : Hid (n + M = N)) (HNNN : Hid (N * k = n2)) (HNO : Hid (outT M ms xs n n = none → allOk (M : Int) ms xs = false)) (HYES : Hid (∀ l, outT M ms xs n n = some l → allOk (M : Int) ms xs = l.all finB ∧ (l.all finB = true → allL (M : Int) ms xs = l)))
    (HB6 : Hid (Below w.heap.size w w6)) (hz6 : w.heap.size < w6.heap.size) (HO6 : Hid (Obj w6 w.heap.size 29 #[.int .i64 (M : Int), .slice A k cap])) (HX6 : Hid (Sl w6 w.heap.size A (ms.map (Value.int .i64)))) (HY6 : Hid (Sl w6 w.heap.size A2 (xs.map (Value.float .f32))))
    (hbr : Below w6.heap.size w6 wA) (hgA : g < wA.heap.size) (HGA : Hid (∀ i, i < N + 1 → wA.cell? ⟨g, i, none⟩ = some (rV S (bs.getD i 0)))) (HBL : Hid (bs.length = N + 1)) (HAR : Hid (AR 71 68 w6.heap.size S (fwdT M ms xs n) wA (.slice (some ⟨g, 0, none⟩) (N + 1) cg) bs))
    (wB wB' : World) (hB : BRel 71 68 wA S N (bwdT M ms xs n) 0 wB) (hown0 : Ow wB' wB.heap.size 46 (.slice (some ⟨wB.heap.size, 0, none⟩) 0 0) (([] : List Nat).map (Value.float .f32))) (hbel0 : Below wB.heap.size wB wB')
    (K0 : Act → World → Prop) (hK0 : ∀ a w', Code.wp Try.prog beh39 (bodyPost Try.prog Try.f6 (AllPost w (M : Int) ms xs)) a w' → K0 a w')
    (u0 u3 u4 u5 u7 u10 u11 u12 u13 u14 u16 u17 u18 u19 u22 u23 u24 u25 u26 u27 u28 u29 u30 u31 u32 u33 u34 u35 u36 u37 u38 u39 u40 u41 u42 u43 u44 u45 u46 u47 u48 u49 u50 u51 u52 u53 u54 u55 u56 u57 u58 u59 u60 u61 u62 u63 u64 u65 u66 u67 u68 u69 u70 u71 u72 u73 u74 u75 u76 u77 u78 u79 u80 u81 u82 u83 u84 u85 u86 u87 u88 u89 u90 u91 u92 u93 u94 u95 u96 u97 u98 u99 u100 u101 u102 u103 u104 u105 u106 u107 u108 u109 u110 u111 u112 u113 u114 u115 u116 u117 u118 u119 u120 u121 u122 u123 u124 u125 u126 u127 u128 u129 u130 u131 u132 u133 u134 u135 u136 u137 u138 u139 u140 u141 u142 u143 u144 u145 u146 u147 u148 u149 u150 u151 u152 u153 u154 u155 u156 u157 u158 u159 u160 u161 u162 u163 u164 u165 u166 u167 u168 u169 u170 u171 u172 u173 u174 u175 u176 u177 u178 u179 u180 u181 u182 u183 u184 u185 u186 u187 u188 u189 u190 u191 u192 u193 u194 u195 u196 u197 u198 u199 u200 u201 u202 u203 u204 u205 u206 u207 u208 u209 u210 u211 u212 u213 u214 u215 u216 u217 u218 u219 u220 u221 u222 u223 u224 u225 u226 u227 u228 u229 u230 u231 u232 u233 u234 u235 u236 u237 u238 u239 u240 u241 u242 u243 u244 u245 u246 u247 u248 u249 u250 u251 u252 u253 u254 u255 u256 u257 u258 u259 u260 u261 u262 u263 u264 u265 u266 u267 u268 u269 u270 u271 u272 u273 u274 u275 u276 u277 u278 u279 u280 u281 u282 u283 u284 u285 u286 u287 u288 u289 u290 u291 u292 u293 u294 u295 u296 u297 u298 u299 u300 u301 u302 u303 u304 u305 : Value) :
    Code.wp Try.prog blk39 (Exit.then K0 (bodyPost Try.prog Try.f6 (AllPost w (M : Int) ms xs))) ⟨#[u0, .slice A2 n2 cap2, .pointer (some ⟨w.heap.size, 0, none⟩), u3, u4, u5, .int .i64 (n : Int), u7, .int .i64 (S : Int), .slice (some ⟨g, 0, none⟩) (N + 1) cg, u10, u11, u12, u13, u14, .slice (some ⟨wA.heap.size, 0, none⟩) (N + 1) (N + 1), u16, u17, u18, u19, .slice (some ⟨wB.heap.size, 0, none⟩) 0 0, .int .i64 0, u22, u23, u24, u25, u26, u27, u28, u29, u30, u31, u32, u33, u34, u35, u36, u37, u38, u39, u40, u41, u42, u43, u44, u45, u46, u47, u48, u49, u50, u51, u52, u53, u54, u55, u56, u57, u58, u59, u60, u61, u62, u63, u64, u65, u66, u67, u68, u69, u70, u71, u72, u73, u74, u75, u76, u77, u78, u79, u80, u81, u82, u83, u84, u85, u86, u87, u88, u89, u90, u91, u92, u93, u94, u95, u96, u97, u98, u99, u100, u101, u102, u103, u104, u105, u106, u107, u108, u109, u110, u111, u112, u113, u114, u115, u116, u117, u118, u119, u120, u121, u122, u123, u124, u125, u126, u127, u128, u129, u130, u131, u132, u133, u134, u135, u136, u137, u138, u139, u140, u141, u142, u143, u144, u145, u146, u147, u148, u149, u150, u151, u152, u153, u154, u155, u156, u157, u158, u159, u160, u161, u162, u163, u164, u165, u166, u167, u168, u169, u170, u171, u172, u173, u174, u175, u176, u177, u178, u179, u180, u181, u182, u183, u184, u185, u186, u187, u188, u189, u190, u191, u192, u193, u194, u195, u196, u197, u198, u199, u200, u201, u202, u203, u204, u205, u206, u207, u208, u209, u210, u211, u212, u213, u214, u215, u216, u217, u218, u219, u220, u221, u222, u223, u224, u225, u226, u227, u228, u229, u230, u231, u232, u233, u234, u235, u236, u237, u238, u239, u240, u241, u242, u243, u244, u245, u246, u247, u248, u249, u250, u251, u252, u253, u254, u255, u256, u257, u258, u259, u260, u261, u262, u263, u264, u265, u266, u267, u268, u269, u270, u271, u272, u273, u274, u275, u276, u277, u278, u279, u280, u281, u282, u283, u284, u285, u286, u287, u288, u289, u290, u291, u292, u293, u294, u295, u296, u297, u298, u299, u300, u301, u302, u303, u304, u305], []⟩ wB' := by
  have hbw6 := HB6.out
  have hbA6 := hbr.size
  obtain ⟨c0, hc0⟩ : ∃ c, beh39 = c := ⟨_, rfl⟩
  rw [hc0] at hK0
  conv at hc0 => lhs; whnf
  subst hc0
  obtain ⟨cs, hcl, hrow, hcs, hbM⟩ := hB
  have HROW := Lib.hid hrow
  have HCS := Lib.hid hcs
  have hbbB := hrow.lt
  have hzM := hbM.size
  have hmk2 : ∀ W : World, (Instr.makeSlice 68 (.int .i64 2) (.int .i64 2)).run Try.prog W = .ok (.slice (some ⟨W.heap.size, 0, none⟩) 2 2) (W.alloc (.cells (madeCells #[Value.bool false, .float .f32 0] (2 * 2)) 71)) := fun W => run_mkSum 2 (by decide) .i64 .i64 W
  have HMK := Lib.hid hmk2
  clear hrow hcs hmk2
  conv => arg 2; whnf
  go_wp2
  go_loopw [20, 21] (fun v i wr => ∃ t : Nat, t ≤ n ∧ i = .int .i64 t ∧ ∃ (ys : List Nat) (l : List (Option Nat)), outT M ms xs n t = some l ∧ ys.map (fl .f32) = l ∧ ys.length = t ∧ Ow wr wB.heap.size 46 v (ys.map (Value.float .f32)) ∧ Below wB.heap.size wB wr) (fun _ i _ => n - (intOf i).toNat)
  case atStart => exact ⟨0, Nat.zero_le _, rfl, [], [], rfl, rfl, rfl, hown0, hbel0⟩
  case round =>
    obtain ⟨t, ht, rfl, ys, l, hout, hys, hyl, hown, hbB⟩ := hrel
    obtain ⟨wG, rfl⟩ : ∃ q : World, q = wr := ⟨_, rfl⟩
    have hGAB : Below wA.heap.size wA wG := hbM.trans (hbB.mono hzM)
    have hzG := hbB.size
    have HOUT := Lib.hid hout
    have HYS := Lib.hid hys
    have HYL := Lib.hid hyl
    have HOWN := Lib.hid hown
    clear hout hys hyl hown
    by_cases hlt : t < n
    · have hltd : decide ((t : Int) < (n : Int)) = true := decide_eq_true (by omega)
      have hti : t < N + 1 := by omega
      have HGC := Lib.hid (HGA.out t hti)
      obtain ⟨_, hbT⟩ := HAR.out.2 t (by rw [HBL.out]; exact hti)
      obtain ⟨bt, ebt⟩ : ∃ b, bs.getD t 0 = b := ⟨_, rfl⟩
      rw [ebt] at HGC hbT
      obtain ⟨Ta, eTa⟩ : ∃ T, fwdT M ms xs n t = T := ⟨_, rfl⟩
      rw [eTa] at hbT
      have hbt := hbT.lt
      have HBT := Lib.hid hbT
      have hci : N - (t + 1) < cs.length := by omega
      obtain ⟨hb1a, hb1s⟩ := HCS.out (N - (t + 1)) hci
      obtain ⟨b1, eb1⟩ : ∃ b, cs.getD (N - (t + 1)) 0 = b := ⟨_, rfl⟩
      obtain ⟨Tb, eTb⟩ : ∃ T, bwdT M ms xs n (N - (t + 1)) = T := ⟨_, rfl⟩
      rw [eb1] at hb1a hb1s
      rw [eTb] at hb1s
      have hb1B := hb1s.lt
      have hb1c : wB.cell? ⟨wA.heap.size, t + 1, none⟩ = some (rV S b1) := by
        have h := HROW.out.get (k := t + 1) (by rw [brow_len]; omega)
        rw [brow_get (by omega) (by omega), eb1] at h
        exact h
      have HB1C := Lib.hid ((hbB.cell (p := ⟨wA.heap.size, t + 1, none⟩) hbbB).trans hb1c)
      have HTB := Lib.hid (hb1s.below hbB hb1B)
      have hb1G : b1 < wG.heap.size := Nat.lt_of_lt_of_le hb1B hzG
      have hbbG : wA.heap.size < wG.heap.size := Nat.lt_of_lt_of_le hbbB hzG
      obtain ⟨pt, ept⟩ : ∃ pt, partL k xs t = pt := ⟨_, rfl⟩
      have hsum : ∀ c, sumT M ms xs n t c = sumR M ms pt Ta Tb c S := fun c => by
        unfold sumT
        rw [HN.out, eTa, eTb, hl, ept, HSS.out]
      have HSUM := Lib.hid hsum
      have hlo3 : (t + 1) * k ≤ n2 := by rw [← HNNN.out]; exact Nat.mul_le_mul_right k (by omega)
      have HHALF : Hid (∀ W, Below w6.heap.size w6 W → ∀ (s : Nat), s ≤ 15 → ∀ c : Bool, Calls Try.prog 39 #[.pointer (some ⟨w.heap.size, 0, none⟩), .slice A2 n2 cap2, .int .i64 (t : Int), .int .i64 (s : Int), .bool c] W fun e w' => ∃ v, e = .returned (.float .f32 v) ∧ fl .f32 v = halfO ms pt s c ∧ Below W.heap.size W w') :=
        Lib.hid fun W hW s hs c => by
          rw [← ept]
          have bw := HB6.out.trans (hW.mono HB6.out.size)
          exact spec_l07Half_c W w.heap.size A k cap ms hl hk1 hk4 hr (Nat.lt_of_lt_of_le hz6 hW.size) (((hW.cell (p := ⟨w.heap.size, 1, none⟩) hz6)).trans (HO6.out.cell 1)) ((HX6.out.below (hW.mono HB6.out.size)).more bw.size) A2 n2 cap2 xs hl2 ((HY6.out.below (hW.mono HB6.out.size)).more bw.size) hcap t hlo3 (by omega) s hs c
      have htN : (t : Int) < (N : Int) + 1 := by omega
      have htN1 : (t : Int) + 1 < (N : Int) + 1 := by omega
      have hwt : IntKind.i64.wrap ((t : Int) + 1) = (t : Int) + 1 := IntWalk.i64_in _ (by omega)
      have hwn : ((t : Int) + 1).toNat = t + 1 := by omega
      have hwp : (0 : Int) ≤ (t : Int) + 1 := by omega
      have hmk2 := HMK.out
      have HGAB := Lib.hid hGAB
      have R2 := SRow.new 71 wG 2
      have HR2 := Lib.hid R2
      clear R2 ept hsum hb1s hbT eTa eTb eb1 ebt hb1c
      go_wp2
      clear hmk2
      go_loopw [23] (fun i wr => ∃ s : Nat, s ≤ S ∧ i = .int .i64 s ∧ SRow 71 wr wG.heap.size 2 (sumJ M ms pt Ta Tb s 0) ∧ Below wG.heap.size wG wr) (fun i _ => S - (intOf i).toNat)
      case atStart => exact ⟨0, Nat.zero_le _, rfl, HR2.out, (Below.refl _ _).alloc (Nat.le_refl _) _⟩
      case round =>
        obtain ⟨s, hs, rfl, hr0, hb⟩ := hrel
        obtain ⟨wC, rfl⟩ : ∃ q : World, q = wr := ⟨_, rfl⟩
        have HR0 := Lib.hid hr0
        have HB0 := Lib.hid hb
        clear hr0 hb
        have hCA : Below wA.heap.size wA wC := hGAB.trans (HB0.out.mono hGAB.size)
        by_cases hlt2 : s < S
        · obtain ⟨f2, y2, g0, g1, hg⟩ := HBT.out.cells hlt2
          have HTS := Lib.hid hg.symm
          have HY2 := Lib.hid g1
          have c0 := (hCA.cell (p := ⟨g, t, none⟩) hgA).trans HGC.out
          have c1 := (hCA.cell (p := ⟨bt, s * 2, none⟩) hbt).trans g0
          have HG0 := Lib.hid g0
          unfold rV at c0
          clear hg g0 g1
          cases f2
          · go_wp2
            go_loopw [24] (fun j w1 => j = .int .i64 0 ∧ ∃ q, w1 = wC.drewN q) (fun _ _ => 0)
            case atStart => exact ⟨rfl, 0, rfl⟩
            case round =>
              obtain ⟨rfl, q, rfl⟩ := hrel
              go_wp2
              go_roundw
              case rel => exact ⟨s + 1, hlt2, by go_num, by rw [sumJ_skip HTS.out]; exact HR0.out, below_drewN HB0.out _⟩
              case measure => simp [intOf]; omega
          · go_wp2
            go_loopw [24] (fun i wr => ∃ j : Nat, j ≤ 2 ∧ i = .int .i64 j ∧ SRow 71 wr wG.heap.size 2 (sumJ M ms pt Ta Tb s j) ∧ Below wG.heap.size wG wr) (fun i _ => 2 - (intOf i).toNat)
            case atStart => exact ⟨0, by omega, rfl, HR0.out, HB0.out⟩
            case round =>
              clear c0 c1 HR0 HB0 hCA
              obtain ⟨j, hj, rfl, hr0, hbE⟩ := hrel
              obtain ⟨wE, rfl⟩ : ∃ q : World, q = wr := ⟨_, rfl⟩
              have HR := Lib.hid hr0
              have hEA : Below wA.heap.size wA wE := hGAB.trans (hbE.mono hGAB.size)
              have hb6 : Below w6.heap.size w6 wE := hbr.trans (hEA.mono hbA6)
              have c0 := (hEA.cell (p := ⟨g, t, none⟩) hgA).trans HGC.out
              have c1 := (hEA.cell (p := ⟨bt, s * 2, none⟩) hbt).trans HG0.out
              unfold rV at c0
              clear hr0
              rcases (show j = 0 ∨ j = 1 ∨ j = 2 by omega) with rfl | rfl | rfl
              · skip
                obtain ⟨to, eto⟩ : ∃ to, toS M s false = to := ⟨_, rfl⟩
                have hto : to < S := by rw [← eto, ← HSS.out]; exact toS_lt false
                have htv : (2 * (s : Int) + bitI false) % 2 ^ M = (to : Int) := by rw [← eto]; exact toS_eq M s false
                have HTV := Lib.hid htv
                have HTO := Lib.hid eto
                clear htv eto
                have cd0 := (hb6.cell (p := ⟨w.heap.size, 0, none⟩) hz6).trans (HO6.out.cell 0)
                have HCD := Lib.hid cd0
                clear cd0
                go_wp2_with fail
                refine (spec_l07Next_c wE w.heap.size M s false (by omega) (by omega) hM1 hM4 HCD.out).mono ?_
                rintro e w' ⟨rfl, q1, rfl⟩
                rw [HTV.out]
                obtain ⟨wD, eD⟩ : ∃ W : World, W = wE.drewN q1 := ⟨_, rfl⟩
                rw [← eD]
                have rD : SRow 71 wD wG.heap.size 2 (sumJ M ms pt Ta Tb s 0) := by rw [eD]; exact HR.out.drewN _
                have bD : Below wG.heap.size wG wD := by rw [eD]; exact below_drewN hbE _
                have bDA : Below wA.heap.size wA wD := hGAB.trans (bD.mono hGAB.size)
                have b6D : Below w6.heap.size w6 wD := hbr.trans (bDA.mono hbA6)
                have zD := bD.size
                have c2 := (bD.cell (p := ⟨wA.heap.size, t + 1, none⟩) hbbG).trans HB1C.out
                unfold rV at c2
                have tD : SRow 71 wD b1 S Tb := HTB.out.below bD hb1G
                obtain ⟨f3, y3, g2, g3, hg3⟩ := tD.cells hto
                obtain ⟨f1, y1, d0, d1, hd⟩ := rD.cells (s := 0) (by omega)
                have d0 : wD.cell? ⟨wG.heap.size, 0, none⟩ = some (.bool f1) := d0
                have d1 : wD.cell? ⟨wG.heap.size, 1, none⟩ = some (.float .f32 y1) := d1
                cases f3
                · have hstep : sumJ M ms pt Ta Tb s (0 + 1) = sumJ M ms pt Ta Tb s 0 := sumJ_same (c := false) (by rw [HTO.out]; exact hg3.symm)
                  have HSTEP := Lib.hid hstep
                  have HRD := Lib.hid rD
                  clear hstep rD tD d0 d1 hd g3 hg3 eD
                  go_wp2
                  go_roundw
                  case rel => exact ⟨0 + 1, by omega, by go_num, by rw [HSTEP.out]; exact HRD.out, bD⟩
                  case measure => simp [intOf]
                · have HLD : Hid (∀ W, Below wD.heap.size wD W → W.cell? ⟨wG.heap.size, 0, none⟩ = some (.bool f1) ∧ W.cell? ⟨wG.heap.size, 1, none⟩ = some (.float .f32 y1) ∧ W.cell? ⟨g, t, none⟩ = some (.slice (some ⟨bt, 0, none⟩) S S) ∧ W.cell? ⟨bt, s * 2 + 1, none⟩ = some (.float .f32 y2) ∧ W.cell? ⟨wA.heap.size, t + 1, none⟩ = some (.slice (some ⟨b1, 0, none⟩) S S) ∧ W.cell? ⟨b1, to * 2 + 1, none⟩ = some (.float .f32 y3)) :=
                    Lib.hid fun W hW => ⟨(hW.cell (p := ⟨wG.heap.size, 0, none⟩) rD.lt).trans d0, (hW.cell (p := ⟨wG.heap.size, 1, none⟩) rD.lt).trans d1, ((bDA.trans (hW.mono bDA.size)).cell (p := ⟨g, t, none⟩) hgA).trans HGC.out, ((bDA.trans (hW.mono bDA.size)).cell (p := ⟨bt, s * 2 + 1, none⟩) hbt).trans HY2.out, (hW.cell (p := ⟨wA.heap.size, t + 1, none⟩) (by simp only []; omega)).trans c2, (hW.cell (p := ⟨b1, to * 2 + 1, none⟩) tD.lt).trans g3⟩
                  have HHF : Hid (∀ W, Below wD.heap.size wD W → Calls Try.prog 39 #[.pointer (some ⟨w.heap.size, 0, none⟩), .slice A2 n2 cap2, .int .i64 (t : Int), .int .i64 (s : Int), .bool false] W fun e w' => ∃ v, e = .returned (.float .f32 v) ∧ fl .f32 v = halfO ms pt s false ∧ Below W.heap.size W w') :=
                    Lib.hid fun W hW => HHALF.out W (b6D.trans (hW.mono b6D.size)) s (by omega) false
                  clear d0 d1 g3 eD
                  go_wp2_with fail
                  clear c2 g2 c0 c1
                  refine wp_region_B (RvS (halfO ms pt s false)) 33 (D := wD.heap.size) (w0 := wD) (by kernel_rfl) (by kernel_rfl) (Below.refl _ _) ?_
                  simp only [List.take_succ_cons, List.take_zero, List.drop_succ_cons, List.drop_zero]
                  iterate 19 (refine wpRel_step (fun K hK => ?_); go_simp; intro W hW; obtain ⟨q0, q1, q2, q3, q4, q5⟩ := HLD.out W hW; (try go_simp); (first | refine ⟨hW, hK _ ?_⟩ | refine hK _ ?_); clear q0 q1 q2 q3 q4 q5 hK K hW W)
                  refine wpRel_step (fun K hK => ?_)
                  go_simp
                  intro W hW
                  refine ⟨half_B (Nat.le_refl _) hW (HHF.out W hW), fun v hv => ?_⟩
                  obtain ⟨x3, rfl, hx3⟩ := rv_half hv
                  refine hK _ ?_
                  clear hK K hW W hv
                  refine wpRel_step (fun K hK => ?_)
                  go_simp
                  intro W hW
                  refine ⟨below_drewN hW _, hK _ ?_⟩
                  clear hK K
                  obtain ⟨z4, ez4⟩ : ∃ z, fres .add .f32 y2 x3 W.tape W.drawn = z := ⟨_, rfl⟩
                  have Hz4 : Hid (fl .f32 z4 = fop .add .f32 (fl .f32 y2) (fl .f32 x3)) := Lib.hid (by rw [← ez4]; exact fl_fres ..)
                  rw [ez4]
                  clear ez4 hW W
                  iterate 9 (refine wpRel_step (fun K hK => ?_); go_simp; intro W hW; obtain ⟨q0, q1, q2, q3, q4, q5⟩ := HLD.out W hW; (try go_simp); (first | refine ⟨hW, hK _ ?_⟩ | refine hK _ ?_); clear q0 q1 q2 q3 q4 q5 hK K hW W)
                  refine wpRel_step (fun K hK => ?_)
                  go_simp
                  intro W hW
                  refine ⟨below_drewN hW _, hK _ ?_⟩
                  clear hK K
                  obtain ⟨z5, ez5⟩ : ∃ z, fres .add .f32 z4 y3 W.tape W.drawn = z := ⟨_, rfl⟩
                  have Hz5 : Hid (fl .f32 z5 = fop .add .f32 (fl .f32 z4) (fl .f32 y3)) := Lib.hid (by rw [← ez5]; exact fl_fres ..)
                  rw [ez5]
                  clear ez5 hW W
                  refine wpRel_step (fun K hK => ?_)
                  go_simp
                  intro W hW
                  refine ⟨sjoin_B (Nat.le_refl _) hW _ _ _, fun v hv => ?_⟩
                  obtain ⟨z6, rfl, hz6'⟩ := rv_sjoin hv
                  refine hK _ ?_
                  clear hK K hW W hv
                  iterate 1 (refine wpRel_step (fun K hK => ?_); go_simp; intro W hW; obtain ⟨q0, q1, q2, q3, q4, q5⟩ := HLD.out W hW; (try go_simp); (first | refine ⟨hW, hK _ ?_⟩ | refine hK _ ?_); clear q0 q1 q2 q3 q4 q5 hK K hW W)
                  refine wpRel_nil ?_
                  intro W hW
                  have rW := rD.below hW rD.lt
                  obtain ⟨f4, y4, t0, t1, _⟩ := rW.cells (s := 0) (by omega)
                  have t0 : W.cell? ⟨wG.heap.size, 0, none⟩ = some (.bool f4) := t0
                  have t1 : W.cell? ⟨wG.heap.size, 1, none⟩ = some (.float .f32 y4) := t1
                  have u0 := rW.frz 0
                  have u1 := rW.frz 1
                  have HRW := Lib.hid rW
                  have HV : Hid (stO true z6 = sumE M ms pt Ta Tb s false ((sumJ M ms pt Ta Tb s 0).getD 0 none)) := Lib.hid (by
                    unfold sumE
                    rw [hz6', Hz5.out, Hz4.out, hx3, hd, HTO.out, ← hg3, HTS.out]
                    rfl)
                  have hbWW : Below wG.heap.size wG W := bD.trans (hW.mono (by omega))
                  clear rW hz6' hx3
                  go_wp2
                  go_roundw
                  case rel =>
                    refine ⟨0 + 1, by omega, by go_num, ?_, Below.setCell (p := ⟨wG.heap.size, 1, none⟩) (Below.setCell (p := ⟨wG.heap.size, 0, none⟩) hbWW (Nat.le_refl _) _) (Nat.le_refl _) _⟩
                    have h8 := SRow.put HRW.out (to := 0) (by omega) true z6 _ HV.out
                    have e9 : sumJ M ms pt Ta Tb s (0 + 1) = (sumJ M ms pt Ta Tb s 0).set 0 (sumE M ms pt Ta Tb s false ((sumJ M ms pt Ta Tb s 0).getD 0 none)) := sumJ_step false
                    rw [e9]
                    exact h8
                  case measure => simp [intOf]
              · skip
                obtain ⟨to, eto⟩ : ∃ to, toS M s true = to := ⟨_, rfl⟩
                have hto : to < S := by rw [← eto, ← HSS.out]; exact toS_lt true
                have htv : (2 * (s : Int) + bitI true) % 2 ^ M = (to : Int) := by rw [← eto]; exact toS_eq M s true
                have HTV := Lib.hid htv
                have HTO := Lib.hid eto
                clear htv eto
                have cd0 := (hb6.cell (p := ⟨w.heap.size, 0, none⟩) hz6).trans (HO6.out.cell 0)
                have HCD := Lib.hid cd0
                clear cd0
                go_wp2_with fail
                refine (spec_l07Next_c wE w.heap.size M s true (by omega) (by omega) hM1 hM4 HCD.out).mono ?_
                rintro e w' ⟨rfl, q1, rfl⟩
                rw [HTV.out]
                obtain ⟨wD, eD⟩ : ∃ W : World, W = wE.drewN q1 := ⟨_, rfl⟩
                rw [← eD]
                have rD : SRow 71 wD wG.heap.size 2 (sumJ M ms pt Ta Tb s 1) := by rw [eD]; exact HR.out.drewN _
                have bD : Below wG.heap.size wG wD := by rw [eD]; exact below_drewN hbE _
                have bDA : Below wA.heap.size wA wD := hGAB.trans (bD.mono hGAB.size)
                have b6D : Below w6.heap.size w6 wD := hbr.trans (bDA.mono hbA6)
                have zD := bD.size
                have c2 := (bD.cell (p := ⟨wA.heap.size, t + 1, none⟩) hbbG).trans HB1C.out
                unfold rV at c2
                have tD : SRow 71 wD b1 S Tb := HTB.out.below bD hb1G
                obtain ⟨f3, y3, g2, g3, hg3⟩ := tD.cells hto
                obtain ⟨f1, y1, d0, d1, hd⟩ := rD.cells (s := 1) (by omega)
                have d0 : wD.cell? ⟨wG.heap.size, 2, none⟩ = some (.bool f1) := d0
                have d1 : wD.cell? ⟨wG.heap.size, 3, none⟩ = some (.float .f32 y1) := d1
                cases f3
                · have hstep : sumJ M ms pt Ta Tb s (1 + 1) = sumJ M ms pt Ta Tb s 1 := sumJ_same (c := true) (by rw [HTO.out]; exact hg3.symm)
                  have HSTEP := Lib.hid hstep
                  have HRD := Lib.hid rD
                  clear hstep rD tD d0 d1 hd g3 hg3 eD
                  go_wp2
                  go_roundw
                  case rel => exact ⟨1 + 1, by omega, by go_num, by rw [HSTEP.out]; exact HRD.out, bD⟩
                  case measure => simp [intOf]
                · have HLD : Hid (∀ W, Below wD.heap.size wD W → W.cell? ⟨wG.heap.size, 2, none⟩ = some (.bool f1) ∧ W.cell? ⟨wG.heap.size, 3, none⟩ = some (.float .f32 y1) ∧ W.cell? ⟨g, t, none⟩ = some (.slice (some ⟨bt, 0, none⟩) S S) ∧ W.cell? ⟨bt, s * 2 + 1, none⟩ = some (.float .f32 y2) ∧ W.cell? ⟨wA.heap.size, t + 1, none⟩ = some (.slice (some ⟨b1, 0, none⟩) S S) ∧ W.cell? ⟨b1, to * 2 + 1, none⟩ = some (.float .f32 y3)) :=
                    Lib.hid fun W hW => ⟨(hW.cell (p := ⟨wG.heap.size, 2, none⟩) rD.lt).trans d0, (hW.cell (p := ⟨wG.heap.size, 3, none⟩) rD.lt).trans d1, ((bDA.trans (hW.mono bDA.size)).cell (p := ⟨g, t, none⟩) hgA).trans HGC.out, ((bDA.trans (hW.mono bDA.size)).cell (p := ⟨bt, s * 2 + 1, none⟩) hbt).trans HY2.out, (hW.cell (p := ⟨wA.heap.size, t + 1, none⟩) (by simp only []; omega)).trans c2, (hW.cell (p := ⟨b1, to * 2 + 1, none⟩) tD.lt).trans g3⟩
                  have HHF : Hid (∀ W, Below wD.heap.size wD W → Calls Try.prog 39 #[.pointer (some ⟨w.heap.size, 0, none⟩), .slice A2 n2 cap2, .int .i64 (t : Int), .int .i64 (s : Int), .bool true] W fun e w' => ∃ v, e = .returned (.float .f32 v) ∧ fl .f32 v = halfO ms pt s true ∧ Below W.heap.size W w') :=
                    Lib.hid fun W hW => HHALF.out W (b6D.trans (hW.mono b6D.size)) s (by omega) true
                  clear d0 d1 g3 eD
                  go_wp2_with fail
                  clear c2 g2 c0 c1
                  refine wp_region_B (RvS (halfO ms pt s true)) 33 (D := wD.heap.size) (w0 := wD) (by kernel_rfl) (by kernel_rfl) (Below.refl _ _) ?_
                  simp only [List.take_succ_cons, List.take_zero, List.drop_succ_cons, List.drop_zero]
                  iterate 19 (refine wpRel_step (fun K hK => ?_); go_simp; intro W hW; obtain ⟨q0, q1, q2, q3, q4, q5⟩ := HLD.out W hW; (try go_simp); (first | refine ⟨hW, hK _ ?_⟩ | refine hK _ ?_); clear q0 q1 q2 q3 q4 q5 hK K hW W)
                  refine wpRel_step (fun K hK => ?_)
                  go_simp
                  intro W hW
                  refine ⟨half_B (Nat.le_refl _) hW (HHF.out W hW), fun v hv => ?_⟩
                  obtain ⟨x3, rfl, hx3⟩ := rv_half hv
                  refine hK _ ?_
                  clear hK K hW W hv
                  refine wpRel_step (fun K hK => ?_)
                  go_simp
                  intro W hW
                  refine ⟨below_drewN hW _, hK _ ?_⟩
                  clear hK K
                  obtain ⟨z4, ez4⟩ : ∃ z, fres .add .f32 y2 x3 W.tape W.drawn = z := ⟨_, rfl⟩
                  have Hz4 : Hid (fl .f32 z4 = fop .add .f32 (fl .f32 y2) (fl .f32 x3)) := Lib.hid (by rw [← ez4]; exact fl_fres ..)
                  rw [ez4]
                  clear ez4 hW W
                  iterate 9 (refine wpRel_step (fun K hK => ?_); go_simp; intro W hW; obtain ⟨q0, q1, q2, q3, q4, q5⟩ := HLD.out W hW; (try go_simp); (first | refine ⟨hW, hK _ ?_⟩ | refine hK _ ?_); clear q0 q1 q2 q3 q4 q5 hK K hW W)
                  refine wpRel_step (fun K hK => ?_)
                  go_simp
                  intro W hW
                  refine ⟨below_drewN hW _, hK _ ?_⟩
                  clear hK K
                  obtain ⟨z5, ez5⟩ : ∃ z, fres .add .f32 z4 y3 W.tape W.drawn = z := ⟨_, rfl⟩
                  have Hz5 : Hid (fl .f32 z5 = fop .add .f32 (fl .f32 z4) (fl .f32 y3)) := Lib.hid (by rw [← ez5]; exact fl_fres ..)
                  rw [ez5]
                  clear ez5 hW W
                  refine wpRel_step (fun K hK => ?_)
                  go_simp
                  intro W hW
                  refine ⟨sjoin_B (Nat.le_refl _) hW _ _ _, fun v hv => ?_⟩
                  obtain ⟨z6, rfl, hz6'⟩ := rv_sjoin hv
                  refine hK _ ?_
                  clear hK K hW W hv
                  iterate 1 (refine wpRel_step (fun K hK => ?_); go_simp; intro W hW; obtain ⟨q0, q1, q2, q3, q4, q5⟩ := HLD.out W hW; (try go_simp); (first | refine ⟨hW, hK _ ?_⟩ | refine hK _ ?_); clear q0 q1 q2 q3 q4 q5 hK K hW W)
                  refine wpRel_nil ?_
                  intro W hW
                  have rW := rD.below hW rD.lt
                  obtain ⟨f4, y4, t0, t1, _⟩ := rW.cells (s := 1) (by omega)
                  have t0 : W.cell? ⟨wG.heap.size, 2, none⟩ = some (.bool f4) := t0
                  have t1 : W.cell? ⟨wG.heap.size, 3, none⟩ = some (.float .f32 y4) := t1
                  have u0 := rW.frz 2
                  have u1 := rW.frz 3
                  have HRW := Lib.hid rW
                  have HV : Hid (stO true z6 = sumE M ms pt Ta Tb s true ((sumJ M ms pt Ta Tb s 1).getD 1 none)) := Lib.hid (by
                    unfold sumE
                    rw [hz6', Hz5.out, Hz4.out, hx3, hd, HTO.out, ← hg3, HTS.out]
                    rfl)
                  have hbWW : Below wG.heap.size wG W := bD.trans (hW.mono (by omega))
                  clear rW hz6' hx3
                  go_wp2
                  go_roundw
                  case rel =>
                    refine ⟨1 + 1, by omega, by go_num, ?_, Below.setCell (p := ⟨wG.heap.size, 3, none⟩) (Below.setCell (p := ⟨wG.heap.size, 2, none⟩) hbWW (Nat.le_refl _) _) (Nat.le_refl _) _⟩
                    have h8 := SRow.put HRW.out (to := 1) (by omega) true z6 _ HV.out
                    have e9 : sumJ M ms pt Ta Tb s (1 + 1) = (sumJ M ms pt Ta Tb s 1).set 1 (sumE M ms pt Ta Tb s true ((sumJ M ms pt Ta Tb s 1).getD 1 none)) := sumJ_step true
                    rw [e9]
                    exact h8
                  case measure => simp [intOf]
              · go_wp2
                go_roundw
                case rel => exact ⟨s + 1, by omega, by go_num, HR.out, hbE⟩
                case measure => simp [intOf]; omega
        · obtain rfl : s = S := by omega
          obtain ⟨f5, y5, d0, d1, hd5⟩ := HR0.out.cells (s := 0) (by omega)
          obtain ⟨f6, y6, d2, d3, hd6⟩ := HR0.out.cells (s := 1) (by omega)
          have d0 : wC.cell? ⟨wG.heap.size, 0, none⟩ = some (.bool f5) := d0
          have d1 : wC.cell? ⟨wG.heap.size, 1, none⟩ = some (.float .f32 y5) := d1
          have d2 : wC.cell? ⟨wG.heap.size, 2, none⟩ = some (.bool f6) := d2
          have d3 : wC.cell? ⟨wG.heap.size, 3, none⟩ = some (.float .f32 y6) := d3
          have hs5 : stO f5 y5 = sumT M ms xs n t false := hd5.trans (HSUM.out false).symm
          have hs6 : stO f6 y6 = sumT M ms xs n t true := hd6.trans (HSUM.out true).symm
          have hbad : (sumT M ms xs n t false = none ∨ sumT M ms xs n t true = none) → allOk (M : Int) ms xs = false := fun h => HNO.out (by
            have h2 := outT_none (outT_stop h) (n - (t + 1))
            rw [show t + 1 + (n - (t + 1)) = n by omega] at h2
            exact h2)
          have HBAD := Lib.hid hbad
          have HS5 := Lib.hid hs5
          have HS6 := Lib.hid hs6
          have hCw : Below w.heap.size w wC := hbw6.trans ((hbr.trans (hCA.mono hbA6)).mono hbw6.size)
          have HCW := Lib.hid hCw
          clear hd5 hd6 hbad hs5 hs6 hCw
          cases f5
          · go_wp2
            go_ret2
            exact all_fail (HBAD.out (.inl HS5.out.symm)) HCW.out
          · cases f6
            · go_wp2
              go_ret2
              exact all_fail (HBAD.out (.inr HS6.out.symm)) HCW.out
            · have hoC : Ow wC wB.heap.size 46 _ (ys.map (Value.float .f32)) := own_below HOWN.out HB0.out (Nat.le_refl _)
              have HOC := Lib.hid hoC
              have hlen : (ys.map (Value.float .f32)).length + 1 ≤ 1099511627776 := by rw [List.length_map, HYL.out]; omega
              have hzC := HB0.out.size
              have hzC2 : wB.heap.size ≤ wC.heap.size := by omega
              have hx5 : sumT M ms xs n t false = some (fl .f32 y5) := HS5.out.symm
              have hx6 : sumT M ms xs n t true = some (fl .f32 y6) := HS6.out.symm
              have HNX := Lib.hid (outT_step HOUT.out hx5 hx6)
              clear hoC hx5 hx6
              go_wp2_with fail
              go_region_law (refine step_app1 Try.underlying25 infoFloat32 rfl (by decide) (by rfl) _ _ (by rfl) wB.heap.size _ _ (by rfl) (own_dallocY HOC.out _) _ _ _ (by rfl) (cell_new1 _ _ _) rfl hlen (by simp; omega) ?_; intro v' w6 ho6 hg6)
              all_goals
                simp only [List.getElem_toArray, List.getElem_cons_succ, List.getElem_cons_zero, Act.put, List.setIfInBounds_toArray, List.set_cons_succ, List.set_cons_zero]
                go_wp2
                go_roundw
                case rel =>
                  obtain ⟨z, hz, ho7⟩ : ∃ z, fl .f32 z = fop .sub .f32 (fl .f32 y6) (fl .f32 y5) ∧ Ow w6 wB.heap.size 46 v' ((ys ++ [z]).map (Value.float .f32)) := by
                    refine ⟨?zz9, ?hz9, ?oz9⟩
                    case oz9 => rw [List.map_append]; exact ho6
                    case hz9 => exact fl_fres ..
                  refine ⟨t + 1, by omega, by go_num, ys ++ [z], _, HNX.out, by rw [List.map_append, HYS.out, List.map_cons, List.map_nil, hz], by rw [List.length_append, HYL.out, List.length_singleton], ho7, ?_⟩
                  exact ((below_drewN (hbB.trans (HB0.out.mono hzG)) _).alloc (by simp; omega) _).grown hg6 (by simp; omega) fun k hk => (World.ownsRow.lt HOC.out k hk).1
                case measure => simp [intOf]; omega
    · obtain rfl : t = n := by omega
      obtain ⟨A5, c5, rfl, ho5⟩ := HOWN.out.opn
      have hsl := sl_of_own ho5
      have hfin := HYES.out l HOUT.out
      have HFIN := Lib.hid hfin
      have HCF := Lib.hid (spec_l02Finite_c wG wG.heap.size A5 ys.length c5 ys rfl (by rw [HYL.out]; omega) hsl)
      have HO5 := Lib.hid ho5
      have hGw : Below w.heap.size w wG := hbw6.trans ((hbr.trans (hGAB.mono hbA6)).mono hbw6.size)
      have HGW := Lib.hid hGw
      have hall : (ys.all fun x => finB (fl .f32 x)) = l.all finB := by
        rw [← HYS.out, List.all_map]
        rfl
      obtain ⟨q0, hq0⟩ : ∃ q, l.all finB = q := ⟨_, rfl⟩
      rw [hall, hq0] at HCF
      rw [hq0] at HFIN
      have hwB : w.heap.size ≤ wB.heap.size := Nat.le_trans hbw6.size (Nat.le_trans hbA6 hzM)
      clear hsl ho5 hfin hGw hall
      cases q0
      · go_wp2_with fail
        refine HCF.out.mono ?_
        rintro e w9 ⟨rfl, q9, rfl⟩
        go_wp2
        go_ret2
        exact all_fail HFIN.out.1 (below_drewN HGW.out _)
      · have HF1 := Lib.hid HFIN.out.1
        have HF2 := Lib.hid (HFIN.out.2 rfl)
        clear HFIN
        go_wp2_with fail
        refine HCF.out.mono ?_
        rintro e w9 ⟨rfl, q9, rfl⟩
        go_wp2
        go_ret2
        refine ⟨.slice A5 ys.length c5, ys, ?_, by rw [HF2.out]; exact HYS.out, ?_, below_drewN HGW.out _⟩
        · rw [HF1.out]
          rfl
        have h := own_lower HO5.out hwB
        unfold Ow
        rw [List.length_map]
        exact h

end Go.Proofs.Ytopeidmafalklaa
