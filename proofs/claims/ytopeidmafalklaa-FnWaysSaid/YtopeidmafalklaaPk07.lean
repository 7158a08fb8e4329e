/-
  Contract: all ways, of the program: what stands behind the moves of all places.
  Conditions: as each theorem says.
  Contract: all ways, of the program: the moves of all places.
  Conditions: lengths at most 1048576.
  Contract: all ways, of both sides, the list told in words.
  Conditions: lengths at most 1048576.
-/
import Derived.Test.YtopeidmafalklaaPk06
import Derived.Deep.RegionHeld3
import Derived.Deep.Cut
import Derived.Deep.RegionLaw

namespace Go.Proofs.Ytopeidmafalklaa
open Go.RowKit Go.Shelf

theorem far2 {w : World} {b o1 o2 c o : Nat} {u v x : Value} (h : w.cell? ⟨c, o, none⟩ = some x) (hn : b ≠ c) : ((w.setCell ⟨b, o1, none⟩ u).setCell ⟨b, o2, none⟩ v).cell? ⟨c, o, none⟩ = some x :=
  (World.cell?_setCell_far _ _ _ _ hn).trans ((World.cell?_setCell_far _ _ _ _ hn).trans h)
theorem cell_alloc_lt {w : World} {o : Go.Obj} {b k : Nat} (h : b < w.heap.size) : (w.alloc o).cell? ⟨b, k, none⟩ = w.cell? ⟨b, k, none⟩ := ((Below.refl w.heap.size w).alloc (Nat.le_refl _) o).cell (p := ⟨b, k, none⟩) h
/-- nothing is added where the sum's side or the table's is not there -/
theorem sumJ_none {M : Nat} {ms : List Int} {part : List Nat} {a b : List St} {s : Nat} {c : Bool} (h : plusS (a.getD s none) (halfO ms part s c) = none ∨ b.getD (toS M s c) none = none) : sumJ M ms part a b s (bN c + 1) = sumJ M ms part a b s (bN c) := by
  rcases h with h | h
  · have h1 : a.getD s none = none := by
      cases hq : a.getD s none with
      | none => rfl
      | some q => rw [hq] at h; exact nomatch h
    rw [sumJ_step]
    unfold sumE
    rw [h1, sumX_none1, set_same]
  · exact sumJ_same h
theorem sumE_yes {M : Nat} {ms : List Int} {part : List Nat} {a b : List St} {s : Nat} {c : Bool} {q : Option Nat} (h : b.getD (toS M s c) none = some q) (u : St) : sumE M ms part a b s c u = joinS u (plusS (plusS (a.getD s none) (halfO ms part s c)) q) := by
  unfold sumE
  rw [h]
  cases a.getD s none <;> cases u <;> rfl

/-- what stands behind a region, within its own row -/
def inM (n : Nat) : Code → Option Code
  | .seq (.region k _ _) b => if k == n then some b else inM n b
  | .seq a b => match inM n a with
    | some c => some c
    | none => inM n b
  | _ => none
/-- what stands behind the row of a region -/
def behM (n : Nat) : Code → Option Code
  | .seq (.seq (.region k x y) c) b => if k == n then some b else (match behM n (.seq (.region k x y) c) with
    | some d => some d
    | none => behM n b)
  | .seq a b => match behM n a with
    | some c => some c
    | none => behM n b
  | _ => none
noncomputable def blkM18 : Code := ((Try.f9.body.bind (inM 18)).getD .skip)
noncomputable def behM18 : Code := ((Try.f9.body.bind (behM 18)).getD .skip)


set_option maxRecDepth 1000000 in
set_option maxHeartbeats 8000000 in
theorem tailM18 (w W : World) (M : Nat) (_hM1 : 1 ≤ M) (hM4 : M ≤ 4) (k : Nat) (ms : List Int) (hl : ms.length = k) (xs : List Nat) (n N S P8 g5 cap5 gb cb s0 B0 Dd : Nat) (gs bs : List Nat) (hn : n ≤ 40) (hnN : n ≤ N) (hN44 : N ≤ 44) (hS16 : S ≤ 16) (hS1 : 1 ≤ S)
    (HSS : Hid (2 ^ M = S)) (HN : Hid (n + M = N)) (HNO : Hid (outT M ms xs n n = none → allOk (M : Int) ms xs = false)) (HYES : Hid (∀ l, outT M ms xs n n = some l → allOk (M : Int) ms xs = l.all finB ∧ (l.all finB = true → allL (M : Int) ms xs = l)))
    (hwB : w.heap.size ≤ B0) (hBW : B0 ≤ W.heap.size) (hbw : Below w.heap.size w W) (hKd : W.heap[Dd]? = some (.deferred (some []))) (hwD : w.heap.size ≤ Dd) (hDB : Dd < B0)
    (hP8 : P8 < B0) (c8 : W.cell? ⟨P8, 0, none⟩ = some (.slice (some ⟨g5, 0, none⟩) N cap5)) (hg5 : g5 < B0) (HG5 : Hid (∀ i, i < N → W.cell? ⟨g5, i, none⟩ = some (rV S (gs.getD i 0)))) (HGS : Hid (∀ i, i < N → gs.getD i 0 < B0 ∧ MRow M ms (partL k xs i) (decide (n ≤ i)) (fun _ _ => true) W (gs.getD i 0) S))
    (hgb : gb < B0) (HGB : Hid (∀ i, i < N + 1 → W.cell? ⟨gb, i, none⟩ = some (rV S (bs.getD (N - i) 0)))) (HBS : Hid (∀ j, j < N + 1 → bs.getD j 0 < B0 ∧ SRow 87 W (bs.getD j 0) S (bwdT M ms xs n j)))
    (_hs0 : s0 < B0) (HS0 : Hid (SRow 87 W s0 S (oneR S))) (hown0 : Ow W B0 46 (.slice (some ⟨B0, 0, none⟩) 0 0) (([] : List Nat).map (Value.float .f32)))
    (K0 : Act → World → Prop) (hK0 : ∀ a w', Code.wp Try.prog behM18 (bodyPostM Fence.wide 3 Try.prog Try.f9 (AllPost w (M : Int) ms xs)) a w' → K0 a w')
    (u0 u1 u2 u3 u4 u5 u6 u7 u9 u10 u12 u15 u16 u17 u18 u19 u20 u21 u22 u23 u24 u25 u26 u27 u28 u29 u30 u31 u32 u33 u34 u35 u36 u37 u38 u39 u40 u41 u42 u43 u44 u45 u46 u47 u48 u49 u50 u51 u52 u53 u54 u55 u56 u57 u58 u59 u60 u61 u62 u63 u64 u65 u66 u67 u68 u69 u70 u71 u72 u73 u74 u75 u76 u77 u78 u79 u80 u83 u84 u85 u86 u87 u88 u89 u90 u91 u92 u93 u94 u95 u96 u97 u98 u99 u100 u101 u102 u103 u104 u105 u106 u107 u108 u109 u110 u111 u112 u113 u114 u115 u116 u117 u118 u119 u120 u121 u122 u123 u124 u125 u126 u127 u128 u129 u130 u131 u132 u133 u134 u135 u136 u137 u138 u139 u140 u141 u142 u143 u144 u145 u146 u147 u148 u149 u150 u151 u152 u153 u154 u155 u156 u157 u158 u159 u160 u161 u162 u163 u164 u165 : Value) :
    Code.wp Try.prog blkM18 (Exit.then K0 (bodyPostM Fence.wide 3 Try.prog Try.f9 (AllPost w (M : Int) ms xs))) ⟨#[u0, u1, u2, u3, u4, u5, u6, u7, .pointer (some ⟨P8, 0, none⟩), u9, u10, .slice (some ⟨gb, 0, none⟩) (N + 1) cb, u12, .slice (some ⟨B0, 0, none⟩) 0 0, .slice (some ⟨s0, 0, none⟩) S S, u15, u16, u17, u18, u19, u20, u21, u22, u23, u24, u25, u26, u27, u28, u29, u30, u31, u32, u33, u34, u35, u36, u37, u38, u39, u40, u41, u42, u43, u44, u45, u46, u47, u48, u49, u50, u51, u52, u53, u54, u55, u56, u57, u58, u59, u60, u61, u62, u63, u64, u65, u66, u67, u68, u69, u70, u71, u72, u73, u74, u75, u76, u77, u78, u79, u80, .int .i64 (n : Int), .int .i64 0, u83, u84, u85, u86, u87, u88, u89, u90, u91, u92, u93, u94, u95, u96, u97, u98, u99, u100, u101, u102, u103, u104, u105, u106, u107, u108, u109, u110, u111, u112, u113, u114, u115, u116, u117, u118, u119, u120, u121, u122, u123, u124, u125, u126, u127, u128, u129, u130, u131, u132, u133, u134, u135, u136, u137, u138, u139, u140, u141, u142, u143, u144, u145, u146, u147, u148, u149, u150, u151, u152, u153, u154, u155, u156, u157, u158, u159, u160, u161, u162, u163, u164, u165], [{ target := .collected Dd, args := #[] }]⟩ W := by
  obtain ⟨c0, hc0⟩ : ∃ c, behM18 = c := ⟨_, rfl⟩
  rw [hc0] at hK0
  conv at hc0 => lhs; whnf
  subst hc0
  have HKD := Lib.hid hKd
  have HC8 := Lib.hid c8
  have HOW0 := Lib.hid hown0
  clear hKd c8 hown0
  conv => arg 2; whnf
  go_wp2
  go_loopw [13, 14, 82] (fun v a i wr => ∃ t : Nat, t ≤ n ∧ i = .int .i64 t ∧ (∃ ba, a = .slice (some ⟨ba, 0, none⟩) S S ∧ SRow 87 wr ba S (fwdT M ms xs n t)) ∧ (∃ (ys : List Nat) (l : List (Option Nat)), outT M ms xs n t = some l ∧ ys.map (fl .f32) = l ∧ ys.length = t ∧ Ow wr B0 46 v (ys.map (Value.float .f32))) ∧ Below B0 W wr) (fun _ _ i _ => n - (intOf i).toNat)
  case atStart =>
    refine ⟨0, Nat.zero_le _, rfl, ⟨s0, rfl, ?_⟩, ⟨[], [], rfl, rfl, rfl, HOW0.out⟩, (Below.refl W.heap.size W).mono hBW⟩
    show SRow _ _ _ _ (oneR (2 ^ M))
    rw [HSS.out]
    exact HS0.out
  case round =>
    obtain ⟨t, ht, rfl, ⟨ba, rfl, hba⟩, ⟨ys, l, hout, hys, hyl, hown⟩, hbB⟩ := hrel
    obtain ⟨wG, rfl⟩ : ∃ q : World, q = wr := ⟨_, rfl⟩
    have hzG := hbB.size
    have HOUT := Lib.hid hout
    have HYS := Lib.hid hys
    have HYL := Lib.hid hyl
    have HOWN := Lib.hid hown
    have HBA := Lib.hid hba
    have hbaz := hba.lt
    clear hout hys hyl hown hba
    by_cases hlt : t < n
    · have hltd : decide ((t : Int) < (n : Int)) = true := decide_eq_true (by omega)
      have c8 := (hbB.cell (p := ⟨P8, 0, none⟩) hP8).trans HC8.out
      have c5 := (hbB.cell (p := ⟨g5, t, none⟩) hg5).trans (HG5.out t (by omega))
      obtain ⟨hgz, hgm⟩ := HGS.out t (by omega)
      obtain ⟨gm, egm⟩ : ∃ b, gs.getD t 0 = b := ⟨_, rfl⟩
      rw [egm] at c5 hgz hgm
      obtain ⟨hbz, hbs⟩ := HBS.out (N - (t + 1)) (by omega)
      have hcb := HGB.out (t + 1) (by omega)
      obtain ⟨b1, eb1⟩ : ∃ b, bs.getD (N - (t + 1)) 0 = b := ⟨_, rfl⟩
      rw [eb1] at hbz hbs hcb
      obtain ⟨Ta, eTa⟩ : ∃ T, fwdT M ms xs n t = T := ⟨_, rfl⟩
      obtain ⟨Tb, eTb⟩ : ∃ T, bwdT M ms xs n (N - (t + 1)) = T := ⟨_, rfl⟩
      obtain ⟨pt, ept⟩ : ∃ pt, partL k xs t = pt := ⟨_, rfl⟩
      have hla : decide (n ≤ t) = false := decide_eq_false (by omega)
      rw [eTa] at HBA
      rw [eTb] at hbs
      rw [ept, hla] at hgm
      have hsum : ∀ c, sumT M ms xs n t c = sumR M ms pt Ta Tb c S := fun c => by
        unfold sumT
        rw [HN.out, eTa, eTb, hl, ept, HSS.out]
      have htab : fwdT M ms xs n (t + 1) = fwdR M ms pt false Ta S := by rw [← HSS.out, ← ept, ← hla, ← eTa, ← hl]; rfl
      have HSUM := Lib.hid hsum
      have HTAB := Lib.hid htab
      have HGM := Lib.hid (hgm.below hbB hgz)
      have HTB := Lib.hid (hbs.below hbB hbz)
      have HCB := Lib.hid ((hbB.cell (p := ⟨gb, t + 1, none⟩) hgb).trans hcb)
      have htN : (t : Int) < (N : Int) := by omega
      have htN1 : (t : Int) + 1 < (N : Int) + 1 := by omega
      have hwt : IntKind.i64.wrap ((t : Int) + 1) = (t : Int) + 1 := IntWalk.i64_in _ (by omega)
      have hwn : ((t : Int) + 1).toNat = t + 1 := by omega
      have hwp : (0 : Int) ≤ (t : Int) + 1 := by omega
      unfold rV at c5
      obtain ⟨wH, eH⟩ : ∃ q : World, q = wG.alloc (.cells #[.bool false, .float .f32 0, .bool false, .float .f32 0] 91) := ⟨_, rfl⟩
      have bGH : Below wG.heap.size wG wH := by rw [eH]; exact (Below.refl _ _).alloc (Nat.le_refl _) _
      have hP8G : P8 < wG.heap.size := by omega
      have hg5G : g5 < wG.heap.size := by omega
      have hbaG : ba < wG.heap.size := hbaz
      have c8 := (bGH.cell (p := ⟨P8, 0, none⟩) hP8G).trans c8
      have c5 := (bGH.cell (p := ⟨g5, t, none⟩) hg5G).trans c5
      have R2 : SRow 91 wH wG.heap.size 2 (noneR 2) := by
        rw [eH]
        refine ⟨⟨_, Obj.new _ _ _, rfl, fun s hs => ?_⟩, rfl⟩
        rcases (show s = 0 ∨ s = 1 by omega) with rfl | rfl
        · exact ⟨false, 0, rfl, rfl, rfl⟩
        · exact ⟨false, 0, rfl, rfl, rfl⟩
      have HR2 := Lib.hid R2
      have hmz : gm < wG.heap.size := by omega
      have hb1G : b1 < wG.heap.size := by omega
      have hgbG : gb < wG.heap.size := by omega
      have hbBH : Below B0 W wH := hbB.trans (bGH.mono (by omega))
      have hzH := bGH.size
      clear R2 ept hsum htab hbs eTa eTb eb1 egm hgm hcb hla
      go_upto_region 22 with fail
      rw [← eH]
      clear eH
      go_wp2
      go_loopw [91] (fun i wr => ∃ s : Nat, s ≤ S ∧ i = .int .i64 s ∧ SRow 91 wr wG.heap.size 2 (sumJ M ms pt Ta Tb s 0) ∧ Below wG.heap.size wH wr) (fun i _ => S - (intOf i).toNat)
      case atStart => exact ⟨0, Nat.zero_le _, rfl, HR2.out, (Below.refl wH.heap.size wH).mono hzH⟩
      case round =>
        obtain ⟨s, hs, rfl, hr0, hb⟩ := hrel
        obtain ⟨wC, rfl⟩ : ∃ q : World, q = wr := ⟨_, rfl⟩
        have HR0 := Lib.hid hr0
        have HB0 := Lib.hid hb
        have hbGC : Below wG.heap.size wG wC := bGH.trans hb
        clear hr0 hb
        by_cases hlt2 : s < S
        · have hmC := HGM.out.below hbGC hmz
          obtain ⟨x0, h1, to1, x1, c0, c1, c2, hx0, c3, c4, c5', hh1, hto1⟩ := hmC.yes hlt2
          obtain rfl : h1 = true := hh1
          obtain ⟨rfl, hx1⟩ := hto1 rfl
          obtain ⟨f2, y2, g0, g1, hg⟩ := HBA.out.cells hlt2
          have HTS := Lib.hid hg.symm
          have HG0 := Lib.hid g0
          have HG1 := Lib.hid g1
          have HX0 := Lib.hid hx0
          have HX1 := Lib.hid hx1
          clear hmC hto1 hg g0 g1 hx0 hx1
          go_wp2
          go_loopw [97] (fun i wr => ∃ j : Nat, j ≤ 2 ∧ i = .int .i64 j ∧ SRow 91 wr wG.heap.size 2 (sumJ M ms pt Ta Tb s j) ∧ Below wG.heap.size wH wr) (fun i _ => 2 - (intOf i).toNat)
          case atStart => exact ⟨0, by omega, rfl, HR0.out.alloc _, HB0.out.alloc (by have := HB0.out.size; omega) _⟩
          case round =>
            clear HR0 HB0 c0 c1 c2 c3 c4 c5' hbGC
            obtain ⟨j, hj, rfl, hr0, hbE⟩ := hrel
            obtain ⟨wE, rfl⟩ : ∃ q : World, q = wr := ⟨_, rfl⟩
            have HR := Lib.hid hr0
            have hbGE : Below wG.heap.size wG wE := bGH.trans hbE
            clear hr0
            rcases (show j = 0 ∨ j = 1 ∨ j = 2 by omega) with rfl | rfl | rfl
            · obtain ⟨to, eto⟩ : ∃ to, toS M s false = to := ⟨_, rfl⟩
              have hto : to < S := by rw [← eto, ← HSS.out]; exact toS_lt false
              rw [eto]
              obtain ⟨wB, eB⟩ : ∃ q : World, q = wE.alloc (.cells #[.bool true, .int .i64 (to : Int), .float .f32 x0] 93) := ⟨_, rfl⟩
              have oB : Obj wB wE.heap.size 93 #[.bool true, .int .i64 (to : Int), .float .f32 x0] := by rw [eB]; exact Obj.new _ _ _
              have bB : Below wG.heap.size wH wB := by rw [eB]; exact hbE.alloc (by have := hbE.size; omega) _
              have bGB : Below wG.heap.size wG wB := bGH.trans bB
              have rB : SRow 91 wB wG.heap.size 2 (sumJ M ms pt Ta Tb s 0) := by rw [eB]; exact HR.out.alloc _
              have tB : SRow 87 wB b1 S Tb := HTB.out.below bGB hb1G
              obtain ⟨f3, y3, t0, t1, hg3⟩ := tB.cells hto
              have p1 : wB.cell? ⟨wE.heap.size, 1, none⟩ = some (.int .i64 (to : Int)) := oB.cell 1
              have p2 : wB.cell? ⟨gb, t + 1, none⟩ = some (.slice (some ⟨b1, 0, none⟩) S S) := (bGB.cell (p := ⟨gb, t + 1, none⟩) hgbG).trans HCB.out
              have HTO := Lib.hid eto
              clear eto
              go_wp2_with (rw [← eB]; clear eB)
              go_region_held3 (fun w' => w'.cell? ⟨wE.heap.size, 1, none⟩ = some (.int .i64 (to : Int)) ∧ w'.cell? ⟨gb, t + 1, none⟩ = some (.slice (some ⟨b1, 0, none⟩) S S) ∧ w'.cell? ⟨b1, to * 2, none⟩ = some (.bool f3) ∧ w'.cell? ⟨b1, to * 2 + 1, none⟩ = some (.float .f32 y3))
                (first | exact ⟨p1, p2, t0, t1⟩ | go_keep)
                (fail)
              obtain ⟨wK, eK⟩ : ∃ q : World, q = (wB.alloc (.cells #[.bool f3, .float .f32 y3] 87)).drew := ⟨_, rfl⟩
              have bBK : Below wB.heap.size wB wK := by rw [eK]; exact below_drewN ((Below.refl wB.heap.size wB).alloc (Nat.le_refl _) _) 1
              have oT : Obj wK wB.heap.size 87 #[.bool f3, .float .f32 y3] := by rw [eK]; exact Obj.new _ _ _
              have hzB := bGB.size
              have hzBK := bBK.size
              have hKz : wB.heap.size < wK.heap.size := oT.lt
              have hEB : wE.heap.size < wB.heap.size := oB.lt
              have bGK : Below wG.heap.size wG wK := bGB.trans (bBK.mono hzB)
              have k0 := (bGK.cell (p := ⟨ba, s * 2, none⟩) hbaG).trans HG0.out
              have k1 := (bGK.cell (p := ⟨ba, s * 2 + 1, none⟩) hbaG).trans HG1.out
              have k2 : wK.cell? ⟨wE.heap.size, 2, none⟩ = some (.float .f32 x0) := (bBK.cell (p := ⟨wE.heap.size, 2, none⟩) hEB).trans (oB.cell 2)
              have hEK : wE.heap.size < wK.heap.size := by omega
              have hbaK : ba < wK.heap.size := by omega
              have hsS : (s : Int) < (S : Int) := by omega
              have HRB := Lib.hid rB
              have HBGK := Lib.hid bGK
              have HBBK := Lib.hid bBK
              have HBHK := Lib.hid (bB.trans (bBK.mono hzB))
              have HOT := Lib.hid oT
              have HT3 := Lib.hid hg3
              clear rB tB bGK bBK oT oB bB bGB t0 t1 p1 p2 hg3
              rw [← eK]
              clear eK
              go_wp2_with fail
              go_region_held3 (fun w' => w'.cell? ⟨ba, s * 2, none⟩ = some (.bool f2) ∧ w'.cell? ⟨ba, s * 2 + 1, none⟩ = some (.float .f32 y2) ∧ w'.cell? ⟨wE.heap.size, 2, none⟩ = some (.float .f32 x0))
                (first | exact ⟨n0, n1, n2⟩ | exact ⟨far2 n0 (by omega), far2 n1 (by omega), far2 n2 (by omega)⟩ | exact ⟨far2 ((cell_alloc_lt hba3).trans n0) (by omega), far2 ((cell_alloc_lt hba3).trans n1) (by omega), far2 ((cell_alloc_lt hE3).trans n2) (by omega)⟩ | exact ⟨(cell_alloc_lt hba3).trans n0, (cell_alloc_lt hba3).trans n1, (cell_alloc_lt hE3).trans n2⟩ | exact ⟨k0, k1, k2⟩ | exact ⟨(cell_alloc_lt hbaK).trans k0, (cell_alloc_lt hbaK).trans k1, (cell_alloc_lt hEK).trans k2⟩ | fail)
                (first
                  | (go_at_call 48; refine (impl_plus_c _ _ _ _).mono ?_; rintro e w3 ⟨k3, z3, rfl, hkz, b3⟩; have b3 := below_undrew b3; have hz3 : wK.heap.size ≤ w3.heap.size := Nat.le_trans (by simp) b3.size; have hba3 : ba < w3.heap.size := Nat.lt_of_lt_of_le hbaK hz3; have hE3 : wE.heap.size < w3.heap.size := Nat.lt_of_lt_of_le hEK hz3; have n0 := (b3.cell (p := ⟨ba, s * 2, none⟩) (by simp; omega)).trans ((cell_alloc_lt hbaK).trans k0); have n1 := (b3.cell (p := ⟨ba, s * 2 + 1, none⟩) (by simp; omega)).trans ((cell_alloc_lt hbaK).trans k1); have n2 := (b3.cell (p := ⟨wE.heap.size, 2, none⟩) (by simp; omega)).trans ((cell_alloc_lt hEK).trans k2); have oP : Obj w3 wK.heap.size 87 #[.bool false, .float .f32 0] := Obj.below (Obj.new wK _ _) b3 (by simp); have p0 : w3.cell? ⟨wK.heap.size, 0, none⟩ = some (.bool false) := oP.cell 0; have p1 : w3.cell? ⟨wK.heap.size, 1, none⟩ = some (.float .f32 0) := oP.cell 1; have p2 := oP.frozen 0; have p3 := oP.frozen 1)
                  | (go_at_call 48; refine (impl_plus_c _ _ _ _).mono ?_; rintro e w3 ⟨k3, z3, rfl, hkz, b3⟩; have b3 := below_undrew b3; have hz3 : wK.heap.size ≤ w3.heap.size := Nat.le_trans (by simp) b3.size; have hba3 : ba < w3.heap.size := Nat.lt_of_lt_of_le hbaK hz3; have hE3 : wE.heap.size < w3.heap.size := Nat.lt_of_lt_of_le hEK hz3; have n0 := (b3.cell (p := ⟨ba, s * 2, none⟩) (by simp; omega)).trans (k0); have n1 := (b3.cell (p := ⟨ba, s * 2 + 1, none⟩) (by simp; omega)).trans (k1); have n2 := (b3.cell (p := ⟨wE.heap.size, 2, none⟩) (by simp; omega)).trans (k2))
                  | fail)
              · obtain ⟨wF, eF⟩ : ∃ q : World, q = w3.alloc (.cells #[.bool k3, .float .f32 z3] 87) := ⟨_, rfl⟩
                obtain ⟨p22, ep⟩ : ∃ p : Nat, p = w3.heap.size := ⟨_, rfl⟩
                have oF : Obj wF p22 87 #[.bool k3, .float .f32 z3] := by rw [eF, ep]; exact Obj.new _ _ _
                have bKF : Below wK.heap.size wK wF := by rw [eF]; exact b3.alloc hz3 _
                rw [← eF, ← ep]
                clear n0 n1 n2 b3 eF ep
                clear k0 k1 k2
                rename_i _hHeld
                clear _hHeld
                have bGF : Below wG.heap.size wG wF := HBGK.out.trans (bKF.mono HBGK.out.size)
                have bHF : Below wG.heap.size wH wF := HBHK.out.trans (bKF.mono HBGK.out.size)
                have rF : SRow 91 wF wG.heap.size 2 (sumJ M ms pt Ta Tb s 0) := HRB.out.below (HBBK.out.trans (bKF.mono hzBK)) HRB.out.lt
                have oTF : Obj wF wB.heap.size 87 #[.bool f3, .float .f32 y3] := HOT.out.below bKF hKz
                have hsa : plusS (Ta.getD s none) (halfO ms pt s false) = stO k3 z3 := by rw [HTS.out, ← HX0.out]; exact hkz.symm
                have hsb : Tb.getD (toS M s false) none = stO f3 y3 := by rw [HTO.out]; exact HT3.out.symm
                have v0 : wF.cell? ⟨p22, 0, none⟩ = some (.bool k3) := oF.cell 0
                have v1 : wF.cell? ⟨p22, 1, none⟩ = some (.float .f32 z3) := oF.cell 1
                have v2 : wF.cell? ⟨wB.heap.size, 0, none⟩ = some (.bool f3) := oTF.cell 0
                have v3 : wF.cell? ⟨wB.heap.size, 1, none⟩ = some (.float .f32 y3) := oTF.cell 1
                have HSA := Lib.hid hsa
                have HSB := Lib.hid hsb
                have HRF := Lib.hid rF
                have HBHF := Lib.hid bHF
                have HOF := Lib.hid oF
                have HOTF := Lib.hid oTF
                clear hsa hsb rF bHF oF oTF hkz
                cases k3
                · have e9 : sumJ M ms pt Ta Tb s 1 = sumJ M ms pt Ta Tb s 0 := sumJ_none (c := false) (.inl (HSA.out.trans rfl))
                  have HE9 := Lib.hid e9
                  clear e9
                  go_wp2
                  go_roundw
                  case rel => exact ⟨1, by omega, by go_num, by rw [HE9.out]; exact HRF.out, HBHF.out⟩
                  case measure => simp [intOf]
                cases f3
                · have e9 : sumJ M ms pt Ta Tb s 1 = sumJ M ms pt Ta Tb s 0 := sumJ_none (c := false) (.inr (HSB.out.trans rfl))
                  have HE9 := Lib.hid e9
                  clear e9
                  go_wp2
                  go_roundw
                  case rel => exact ⟨1, by omega, by go_num, by rw [HE9.out]; exact HRF.out, HBHF.out⟩
                  case measure => simp [intOf]
                obtain ⟨f4, y4, d0, d1, hd⟩ := HRF.out.cells (s := 0) (by omega)
                have HLD : Hid (∀ W, Below wF.heap.size wF W → W.cell? ⟨p22, 0, none⟩ = some (.bool true) ∧ W.cell? ⟨p22, 1, none⟩ = some (.float .f32 z3) ∧ W.cell? ⟨wB.heap.size, 1, none⟩ = some (.float .f32 y3) ∧ W.cell? ⟨wG.heap.size, 0, none⟩ = some (.bool f4) ∧ W.cell? ⟨wG.heap.size, 1, none⟩ = some (.float .f32 y4)) :=
                  Lib.hid fun W hW => ⟨((HOF.out.below hW HOF.out.lt).cell 0).trans rfl, ((HOF.out.below hW HOF.out.lt).cell 1).trans rfl, ((HOTF.out.below hW HOTF.out.lt).cell 1).trans rfl, (hW.cell (p := ⟨wG.heap.size, 0, none⟩) HRF.out.lt).trans d0, (hW.cell (p := ⟨wG.heap.size, 1, none⟩) HRF.out.lt).trans d1⟩
                have HD := Lib.hid hd
                clear d0 d1 hd
                go_wp2_with fail
                refine wp_region_B RvJ 10 (D := wF.heap.size) (w0 := wF) (by kernel_rfl) (by kernel_rfl) (Below.refl _ _) ?_
                simp only [List.take_succ_cons, List.take_zero, List.drop_succ_cons, List.drop_zero]
                iterate 7 (refine wpRel_step (fun K hK => ?_); go_simp; intro W hW; obtain ⟨q0, q1, q2, q3, q4⟩ := HLD.out W hW; (try go_simp); (first | refine ⟨hW, hK _ ?_⟩ | refine hK _ ?_); clear q0 q1 q2 q3 q4 hK K hW W)
                refine wpRel_step (fun K hK => ?_)
                go_simp
                intro W hW
                refine ⟨plus_B (Nat.le_refl _) hW _ _ _, fun v hv => ?_⟩
                obtain ⟨k5, z5, rfl, hv1⟩ := rv_plus hv
                refine hK _ ?_
                clear hK K hW W hv
                refine wpRel_step (fun K hK => ?_)
                go_simp
                intro W hW
                refine ⟨join_B (Nat.le_refl _) hW _ _ _ _, fun v hv => ?_⟩
                obtain ⟨k6, z6, rfl, hv2⟩ := rv_join hv
                refine hK _ ?_
                clear hK K hW W hv
                refine wpRel_step (fun K hK => ?_)
                go_simp
                intro W hW
                (first | refine ⟨hW, hK _ ?_⟩ | refine hK _ ?_)
                clear hK K hW W
                refine wpRel_nil ?_
                intro W hW
                have rW := HRF.out.below hW HRF.out.lt
                obtain ⟨f7, y7, t0, t1, _⟩ := rW.cells (s := 0) (by omega)
                have t0 : W.cell? ⟨wG.heap.size, 0, none⟩ = some (.bool f7) := t0
                have t1 : W.cell? ⟨wG.heap.size, 1, none⟩ = some (.float .f32 y7) := t1
                have u0 := rW.frz 0
                have u1 := rW.frz 1
                have HRW := Lib.hid rW
                have HV : Hid (stO k6 z6 = sumE M ms pt Ta Tb s false ((sumJ M ms pt Ta Tb s 0).getD 0 none)) := Lib.hid (by rw [sumE_yes (HSB.out.trans rfl), HSA.out, hv2, hv1, HD.out])
                have hbWW : Below wG.heap.size wH W := HBHF.out.trans (hW.mono bGF.size)
                clear rW hv1 hv2
                go_wp2
                go_roundw
                case rel =>
                  refine ⟨1, by omega, by go_num, ?_, Below.setCell (p := ⟨wG.heap.size, 1, none⟩) (Below.setCell (p := ⟨wG.heap.size, 0, none⟩) hbWW (Nat.le_refl _) _) (Nat.le_refl _) _⟩
                  have h9 := sumJ_step (M := M) (ms := ms) (part := pt) (a := Ta) (b := Tb) (s := s) false
                  have h8 := SRow.put HRW.out (to := 0) (by omega) k6 z6 _ HV.out
                  have e9 : sumJ M ms pt Ta Tb s 1 = ((sumJ M ms pt Ta Tb s 0).set 0 (sumE M ms pt Ta Tb s false ((sumJ M ms pt Ta Tb s 0).getD 0 none))) := h9
                  rw [e9]
                  exact h8
                case measure => simp [intOf]
              · obtain ⟨wF, eF⟩ : ∃ q : World, q = ((w3.setCell ⟨wK.heap.size, 0, none⟩ (.bool k3)).setCell ⟨wK.heap.size, 1, none⟩ (.float .f32 z3)) := ⟨_, rfl⟩
                obtain ⟨p22, ep⟩ : ∃ p : Nat, p = wK.heap.size := ⟨_, rfl⟩
                have oF : Obj wF p22 87 #[.bool k3, .float .f32 z3] := by rw [eF, ep]; exact (oP.set 0 _).set 1 _
                have bKF : Below wK.heap.size wK wF := by rw [eF]; exact Below.setCell (p := ⟨wK.heap.size, 1, none⟩) (Below.setCell (p := ⟨wK.heap.size, 0, none⟩) (((Below.refl wK.heap.size wK).alloc (Nat.le_refl _) _).trans (b3.mono (by simp))) (Nat.le_refl _) _) (Nat.le_refl _) _
                rw [← eF, ← ep]
                clear n0 n1 n2 b3 eF ep
                clear k0 k1 k2
                rename_i _hHeld
                clear _hHeld
                have bGF : Below wG.heap.size wG wF := HBGK.out.trans (bKF.mono HBGK.out.size)
                have bHF : Below wG.heap.size wH wF := HBHK.out.trans (bKF.mono HBGK.out.size)
                have rF : SRow 91 wF wG.heap.size 2 (sumJ M ms pt Ta Tb s 0) := HRB.out.below (HBBK.out.trans (bKF.mono hzBK)) HRB.out.lt
                have oTF : Obj wF wB.heap.size 87 #[.bool f3, .float .f32 y3] := HOT.out.below bKF hKz
                have hsa : plusS (Ta.getD s none) (halfO ms pt s false) = stO k3 z3 := by rw [HTS.out, ← HX0.out]; exact hkz.symm
                have hsb : Tb.getD (toS M s false) none = stO f3 y3 := by rw [HTO.out]; exact HT3.out.symm
                have v0 : wF.cell? ⟨p22, 0, none⟩ = some (.bool k3) := oF.cell 0
                have v1 : wF.cell? ⟨p22, 1, none⟩ = some (.float .f32 z3) := oF.cell 1
                have v2 : wF.cell? ⟨wB.heap.size, 0, none⟩ = some (.bool f3) := oTF.cell 0
                have v3 : wF.cell? ⟨wB.heap.size, 1, none⟩ = some (.float .f32 y3) := oTF.cell 1
                have HSA := Lib.hid hsa
                have HSB := Lib.hid hsb
                have HRF := Lib.hid rF
                have HBHF := Lib.hid bHF
                have HOF := Lib.hid oF
                have HOTF := Lib.hid oTF
                clear hsa hsb rF bHF oF oTF hkz
                cases k3
                · have e9 : sumJ M ms pt Ta Tb s 1 = sumJ M ms pt Ta Tb s 0 := sumJ_none (c := false) (.inl (HSA.out.trans rfl))
                  have HE9 := Lib.hid e9
                  clear e9
                  go_wp2
                  go_roundw
                  case rel => exact ⟨1, by omega, by go_num, by rw [HE9.out]; exact HRF.out, HBHF.out⟩
                  case measure => simp [intOf]
                cases f3
                · have e9 : sumJ M ms pt Ta Tb s 1 = sumJ M ms pt Ta Tb s 0 := sumJ_none (c := false) (.inr (HSB.out.trans rfl))
                  have HE9 := Lib.hid e9
                  clear e9
                  go_wp2
                  go_roundw
                  case rel => exact ⟨1, by omega, by go_num, by rw [HE9.out]; exact HRF.out, HBHF.out⟩
                  case measure => simp [intOf]
                obtain ⟨f4, y4, d0, d1, hd⟩ := HRF.out.cells (s := 0) (by omega)
                have HLD : Hid (∀ W, Below wF.heap.size wF W → W.cell? ⟨p22, 0, none⟩ = some (.bool true) ∧ W.cell? ⟨p22, 1, none⟩ = some (.float .f32 z3) ∧ W.cell? ⟨wB.heap.size, 1, none⟩ = some (.float .f32 y3) ∧ W.cell? ⟨wG.heap.size, 0, none⟩ = some (.bool f4) ∧ W.cell? ⟨wG.heap.size, 1, none⟩ = some (.float .f32 y4)) :=
                  Lib.hid fun W hW => ⟨((HOF.out.below hW HOF.out.lt).cell 0).trans rfl, ((HOF.out.below hW HOF.out.lt).cell 1).trans rfl, ((HOTF.out.below hW HOTF.out.lt).cell 1).trans rfl, (hW.cell (p := ⟨wG.heap.size, 0, none⟩) HRF.out.lt).trans d0, (hW.cell (p := ⟨wG.heap.size, 1, none⟩) HRF.out.lt).trans d1⟩
                have HD := Lib.hid hd
                clear d0 d1 hd
                go_wp2_with fail
                refine wp_region_B RvJ 10 (D := wF.heap.size) (w0 := wF) (by kernel_rfl) (by kernel_rfl) (Below.refl _ _) ?_
                simp only [List.take_succ_cons, List.take_zero, List.drop_succ_cons, List.drop_zero]
                iterate 7 (refine wpRel_step (fun K hK => ?_); go_simp; intro W hW; obtain ⟨q0, q1, q2, q3, q4⟩ := HLD.out W hW; (try go_simp); (first | refine ⟨hW, hK _ ?_⟩ | refine hK _ ?_); clear q0 q1 q2 q3 q4 hK K hW W)
                refine wpRel_step (fun K hK => ?_)
                go_simp
                intro W hW
                refine ⟨plus_B (Nat.le_refl _) hW _ _ _, fun v hv => ?_⟩
                obtain ⟨k5, z5, rfl, hv1⟩ := rv_plus hv
                refine hK _ ?_
                clear hK K hW W hv
                refine wpRel_step (fun K hK => ?_)
                go_simp
                intro W hW
                refine ⟨join_B (Nat.le_refl _) hW _ _ _ _, fun v hv => ?_⟩
                obtain ⟨k6, z6, rfl, hv2⟩ := rv_join hv
                refine hK _ ?_
                clear hK K hW W hv
                refine wpRel_step (fun K hK => ?_)
                go_simp
                intro W hW
                (first | refine ⟨hW, hK _ ?_⟩ | refine hK _ ?_)
                clear hK K hW W
                refine wpRel_nil ?_
                intro W hW
                have rW := HRF.out.below hW HRF.out.lt
                obtain ⟨f7, y7, t0, t1, _⟩ := rW.cells (s := 0) (by omega)
                have t0 : W.cell? ⟨wG.heap.size, 0, none⟩ = some (.bool f7) := t0
                have t1 : W.cell? ⟨wG.heap.size, 1, none⟩ = some (.float .f32 y7) := t1
                have u0 := rW.frz 0
                have u1 := rW.frz 1
                have HRW := Lib.hid rW
                have HV : Hid (stO k6 z6 = sumE M ms pt Ta Tb s false ((sumJ M ms pt Ta Tb s 0).getD 0 none)) := Lib.hid (by rw [sumE_yes (HSB.out.trans rfl), HSA.out, hv2, hv1, HD.out])
                have hbWW : Below wG.heap.size wH W := HBHF.out.trans (hW.mono bGF.size)
                clear rW hv1 hv2
                go_wp2
                go_roundw
                case rel =>
                  refine ⟨1, by omega, by go_num, ?_, Below.setCell (p := ⟨wG.heap.size, 1, none⟩) (Below.setCell (p := ⟨wG.heap.size, 0, none⟩) hbWW (Nat.le_refl _) _) (Nat.le_refl _) _⟩
                  have h9 := sumJ_step (M := M) (ms := ms) (part := pt) (a := Ta) (b := Tb) (s := s) false
                  have h8 := SRow.put HRW.out (to := 0) (by omega) k6 z6 _ HV.out
                  have e9 : sumJ M ms pt Ta Tb s 1 = ((sumJ M ms pt Ta Tb s 0).set 0 (sumE M ms pt Ta Tb s false ((sumJ M ms pt Ta Tb s 0).getD 0 none))) := h9
                  rw [e9]
                  exact h8
                case measure => simp [intOf]
            · obtain ⟨to, eto⟩ : ∃ to, toS M s true = to := ⟨_, rfl⟩
              have hto : to < S := by rw [← eto, ← HSS.out]; exact toS_lt true
              rw [eto]
              obtain ⟨wB, eB⟩ : ∃ q : World, q = wE.alloc (.cells #[.bool true, .int .i64 (to : Int), .float .f32 x1] 93) := ⟨_, rfl⟩
              have oB : Obj wB wE.heap.size 93 #[.bool true, .int .i64 (to : Int), .float .f32 x1] := by rw [eB]; exact Obj.new _ _ _
              have bB : Below wG.heap.size wH wB := by rw [eB]; exact hbE.alloc (by have := hbE.size; omega) _
              have bGB : Below wG.heap.size wG wB := bGH.trans bB
              have rB : SRow 91 wB wG.heap.size 2 (sumJ M ms pt Ta Tb s 1) := by rw [eB]; exact HR.out.alloc _
              have tB : SRow 87 wB b1 S Tb := HTB.out.below bGB hb1G
              obtain ⟨f3, y3, t0, t1, hg3⟩ := tB.cells hto
              have p1 : wB.cell? ⟨wE.heap.size, 1, none⟩ = some (.int .i64 (to : Int)) := oB.cell 1
              have p2 : wB.cell? ⟨gb, t + 1, none⟩ = some (.slice (some ⟨b1, 0, none⟩) S S) := (bGB.cell (p := ⟨gb, t + 1, none⟩) hgbG).trans HCB.out
              have HTO := Lib.hid eto
              clear eto
              go_wp2_with (rw [← eB]; clear eB)
              go_region_held3 (fun w' => w'.cell? ⟨wE.heap.size, 1, none⟩ = some (.int .i64 (to : Int)) ∧ w'.cell? ⟨gb, t + 1, none⟩ = some (.slice (some ⟨b1, 0, none⟩) S S) ∧ w'.cell? ⟨b1, to * 2, none⟩ = some (.bool f3) ∧ w'.cell? ⟨b1, to * 2 + 1, none⟩ = some (.float .f32 y3))
                (first | exact ⟨p1, p2, t0, t1⟩ | go_keep)
                (fail)
              obtain ⟨wK, eK⟩ : ∃ q : World, q = (wB.alloc (.cells #[.bool f3, .float .f32 y3] 87)).drew := ⟨_, rfl⟩
              have bBK : Below wB.heap.size wB wK := by rw [eK]; exact below_drewN ((Below.refl wB.heap.size wB).alloc (Nat.le_refl _) _) 1
              have oT : Obj wK wB.heap.size 87 #[.bool f3, .float .f32 y3] := by rw [eK]; exact Obj.new _ _ _
              have hzB := bGB.size
              have hzBK := bBK.size
              have hKz : wB.heap.size < wK.heap.size := oT.lt
              have hEB : wE.heap.size < wB.heap.size := oB.lt
              have bGK : Below wG.heap.size wG wK := bGB.trans (bBK.mono hzB)
              have k0 := (bGK.cell (p := ⟨ba, s * 2, none⟩) hbaG).trans HG0.out
              have k1 := (bGK.cell (p := ⟨ba, s * 2 + 1, none⟩) hbaG).trans HG1.out
              have k2 : wK.cell? ⟨wE.heap.size, 2, none⟩ = some (.float .f32 x1) := (bBK.cell (p := ⟨wE.heap.size, 2, none⟩) hEB).trans (oB.cell 2)
              have hEK : wE.heap.size < wK.heap.size := by omega
              have hbaK : ba < wK.heap.size := by omega
              have hsS : (s : Int) < (S : Int) := by omega
              have HRB := Lib.hid rB
              have HBGK := Lib.hid bGK
              have HBBK := Lib.hid bBK
              have HBHK := Lib.hid (bB.trans (bBK.mono hzB))
              have HOT := Lib.hid oT
              have HT3 := Lib.hid hg3
              clear rB tB bGK bBK oT oB bB bGB t0 t1 p1 p2 hg3
              rw [← eK]
              clear eK
              go_wp2_with fail
              go_region_held3 (fun w' => w'.cell? ⟨ba, s * 2, none⟩ = some (.bool f2) ∧ w'.cell? ⟨ba, s * 2 + 1, none⟩ = some (.float .f32 y2) ∧ w'.cell? ⟨wE.heap.size, 2, none⟩ = some (.float .f32 x1))
                (first | exact ⟨n0, n1, n2⟩ | exact ⟨far2 n0 (by omega), far2 n1 (by omega), far2 n2 (by omega)⟩ | exact ⟨far2 ((cell_alloc_lt hba3).trans n0) (by omega), far2 ((cell_alloc_lt hba3).trans n1) (by omega), far2 ((cell_alloc_lt hE3).trans n2) (by omega)⟩ | exact ⟨(cell_alloc_lt hba3).trans n0, (cell_alloc_lt hba3).trans n1, (cell_alloc_lt hE3).trans n2⟩ | exact ⟨k0, k1, k2⟩ | exact ⟨(cell_alloc_lt hbaK).trans k0, (cell_alloc_lt hbaK).trans k1, (cell_alloc_lt hEK).trans k2⟩ | fail)
                (first
                  | (go_at_call 48; refine (impl_plus_c _ _ _ _).mono ?_; rintro e w3 ⟨k3, z3, rfl, hkz, b3⟩; have b3 := below_undrew b3; have hz3 : wK.heap.size ≤ w3.heap.size := Nat.le_trans (by simp) b3.size; have hba3 : ba < w3.heap.size := Nat.lt_of_lt_of_le hbaK hz3; have hE3 : wE.heap.size < w3.heap.size := Nat.lt_of_lt_of_le hEK hz3; have n0 := (b3.cell (p := ⟨ba, s * 2, none⟩) (by simp; omega)).trans ((cell_alloc_lt hbaK).trans k0); have n1 := (b3.cell (p := ⟨ba, s * 2 + 1, none⟩) (by simp; omega)).trans ((cell_alloc_lt hbaK).trans k1); have n2 := (b3.cell (p := ⟨wE.heap.size, 2, none⟩) (by simp; omega)).trans ((cell_alloc_lt hEK).trans k2); have oP : Obj w3 wK.heap.size 87 #[.bool false, .float .f32 0] := Obj.below (Obj.new wK _ _) b3 (by simp); have p0 : w3.cell? ⟨wK.heap.size, 0, none⟩ = some (.bool false) := oP.cell 0; have p1 : w3.cell? ⟨wK.heap.size, 1, none⟩ = some (.float .f32 0) := oP.cell 1; have p2 := oP.frozen 0; have p3 := oP.frozen 1)
                  | (go_at_call 48; refine (impl_plus_c _ _ _ _).mono ?_; rintro e w3 ⟨k3, z3, rfl, hkz, b3⟩; have b3 := below_undrew b3; have hz3 : wK.heap.size ≤ w3.heap.size := Nat.le_trans (by simp) b3.size; have hba3 : ba < w3.heap.size := Nat.lt_of_lt_of_le hbaK hz3; have hE3 : wE.heap.size < w3.heap.size := Nat.lt_of_lt_of_le hEK hz3; have n0 := (b3.cell (p := ⟨ba, s * 2, none⟩) (by simp; omega)).trans (k0); have n1 := (b3.cell (p := ⟨ba, s * 2 + 1, none⟩) (by simp; omega)).trans (k1); have n2 := (b3.cell (p := ⟨wE.heap.size, 2, none⟩) (by simp; omega)).trans (k2))
                  | fail)
              · obtain ⟨wF, eF⟩ : ∃ q : World, q = w3.alloc (.cells #[.bool k3, .float .f32 z3] 87) := ⟨_, rfl⟩
                obtain ⟨p22, ep⟩ : ∃ p : Nat, p = w3.heap.size := ⟨_, rfl⟩
                have oF : Obj wF p22 87 #[.bool k3, .float .f32 z3] := by rw [eF, ep]; exact Obj.new _ _ _
                have bKF : Below wK.heap.size wK wF := by rw [eF]; exact b3.alloc hz3 _
                rw [← eF, ← ep]
                clear n0 n1 n2 b3 eF ep
                clear k0 k1 k2
                rename_i _hHeld
                clear _hHeld
                have bGF : Below wG.heap.size wG wF := HBGK.out.trans (bKF.mono HBGK.out.size)
                have bHF : Below wG.heap.size wH wF := HBHK.out.trans (bKF.mono HBGK.out.size)
                have rF : SRow 91 wF wG.heap.size 2 (sumJ M ms pt Ta Tb s 1) := HRB.out.below (HBBK.out.trans (bKF.mono hzBK)) HRB.out.lt
                have oTF : Obj wF wB.heap.size 87 #[.bool f3, .float .f32 y3] := HOT.out.below bKF hKz
                have hsa : plusS (Ta.getD s none) (halfO ms pt s true) = stO k3 z3 := by rw [HTS.out, ← HX1.out]; exact hkz.symm
                have hsb : Tb.getD (toS M s true) none = stO f3 y3 := by rw [HTO.out]; exact HT3.out.symm
                have v0 : wF.cell? ⟨p22, 0, none⟩ = some (.bool k3) := oF.cell 0
                have v1 : wF.cell? ⟨p22, 1, none⟩ = some (.float .f32 z3) := oF.cell 1
                have v2 : wF.cell? ⟨wB.heap.size, 0, none⟩ = some (.bool f3) := oTF.cell 0
                have v3 : wF.cell? ⟨wB.heap.size, 1, none⟩ = some (.float .f32 y3) := oTF.cell 1
                have HSA := Lib.hid hsa
                have HSB := Lib.hid hsb
                have HRF := Lib.hid rF
                have HBHF := Lib.hid bHF
                have HOF := Lib.hid oF
                have HOTF := Lib.hid oTF
                clear hsa hsb rF bHF oF oTF hkz
                cases k3
                · have e9 : sumJ M ms pt Ta Tb s 2 = sumJ M ms pt Ta Tb s 1 := sumJ_none (c := true) (.inl (HSA.out.trans rfl))
                  have HE9 := Lib.hid e9
                  clear e9
                  go_wp2
                  go_roundw
                  case rel => exact ⟨2, by omega, by go_num, by rw [HE9.out]; exact HRF.out, HBHF.out⟩
                  case measure => simp [intOf]
                cases f3
                · have e9 : sumJ M ms pt Ta Tb s 2 = sumJ M ms pt Ta Tb s 1 := sumJ_none (c := true) (.inr (HSB.out.trans rfl))
                  have HE9 := Lib.hid e9
                  clear e9
                  go_wp2
                  go_roundw
                  case rel => exact ⟨2, by omega, by go_num, by rw [HE9.out]; exact HRF.out, HBHF.out⟩
                  case measure => simp [intOf]
                obtain ⟨f4, y4, d0, d1, hd⟩ := HRF.out.cells (s := 1) (by omega)
                have HLD : Hid (∀ W, Below wF.heap.size wF W → W.cell? ⟨p22, 0, none⟩ = some (.bool true) ∧ W.cell? ⟨p22, 1, none⟩ = some (.float .f32 z3) ∧ W.cell? ⟨wB.heap.size, 1, none⟩ = some (.float .f32 y3) ∧ W.cell? ⟨wG.heap.size, 2, none⟩ = some (.bool f4) ∧ W.cell? ⟨wG.heap.size, 3, none⟩ = some (.float .f32 y4)) :=
                  Lib.hid fun W hW => ⟨((HOF.out.below hW HOF.out.lt).cell 0).trans rfl, ((HOF.out.below hW HOF.out.lt).cell 1).trans rfl, ((HOTF.out.below hW HOTF.out.lt).cell 1).trans rfl, (hW.cell (p := ⟨wG.heap.size, 2, none⟩) HRF.out.lt).trans d0, (hW.cell (p := ⟨wG.heap.size, 3, none⟩) HRF.out.lt).trans d1⟩
                have HD := Lib.hid hd
                clear d0 d1 hd
                go_wp2_with fail
                refine wp_region_B RvJ 10 (D := wF.heap.size) (w0 := wF) (by kernel_rfl) (by kernel_rfl) (Below.refl _ _) ?_
                simp only [List.take_succ_cons, List.take_zero, List.drop_succ_cons, List.drop_zero]
                iterate 7 (refine wpRel_step (fun K hK => ?_); go_simp; intro W hW; obtain ⟨q0, q1, q2, q3, q4⟩ := HLD.out W hW; (try go_simp); (first | refine ⟨hW, hK _ ?_⟩ | refine hK _ ?_); clear q0 q1 q2 q3 q4 hK K hW W)
                refine wpRel_step (fun K hK => ?_)
                go_simp
                intro W hW
                refine ⟨plus_B (Nat.le_refl _) hW _ _ _, fun v hv => ?_⟩
                obtain ⟨k5, z5, rfl, hv1⟩ := rv_plus hv
                refine hK _ ?_
                clear hK K hW W hv
                refine wpRel_step (fun K hK => ?_)
                go_simp
                intro W hW
                refine ⟨join_B (Nat.le_refl _) hW _ _ _ _, fun v hv => ?_⟩
                obtain ⟨k6, z6, rfl, hv2⟩ := rv_join hv
                refine hK _ ?_
                clear hK K hW W hv
                refine wpRel_step (fun K hK => ?_)
                go_simp
                intro W hW
                (first | refine ⟨hW, hK _ ?_⟩ | refine hK _ ?_)
                clear hK K hW W
                refine wpRel_nil ?_
                intro W hW
                have rW := HRF.out.below hW HRF.out.lt
                obtain ⟨f7, y7, t0, t1, _⟩ := rW.cells (s := 1) (by omega)
                have t0 : W.cell? ⟨wG.heap.size, 2, none⟩ = some (.bool f7) := t0
                have t1 : W.cell? ⟨wG.heap.size, 3, none⟩ = some (.float .f32 y7) := t1
                have u0 := rW.frz 2
                have u1 := rW.frz 3
                have HRW := Lib.hid rW
                have HV : Hid (stO k6 z6 = sumE M ms pt Ta Tb s true ((sumJ M ms pt Ta Tb s 1).getD 1 none)) := Lib.hid (by rw [sumE_yes (HSB.out.trans rfl), HSA.out, hv2, hv1, HD.out])
                have hbWW : Below wG.heap.size wH W := HBHF.out.trans (hW.mono bGF.size)
                clear rW hv1 hv2
                go_wp2
                go_roundw
                case rel =>
                  refine ⟨2, by omega, by go_num, ?_, Below.setCell (p := ⟨wG.heap.size, 3, none⟩) (Below.setCell (p := ⟨wG.heap.size, 2, none⟩) hbWW (Nat.le_refl _) _) (Nat.le_refl _) _⟩
                  have h9 := sumJ_step (M := M) (ms := ms) (part := pt) (a := Ta) (b := Tb) (s := s) true
                  have h8 := SRow.put HRW.out (to := 1) (by omega) k6 z6 _ HV.out
                  have e9 : sumJ M ms pt Ta Tb s 2 = ((sumJ M ms pt Ta Tb s 1).set 1 (sumE M ms pt Ta Tb s true ((sumJ M ms pt Ta Tb s 1).getD 1 none))) := h9
                  rw [e9]
                  exact h8
                case measure => simp [intOf]
              · obtain ⟨wF, eF⟩ : ∃ q : World, q = ((w3.setCell ⟨wK.heap.size, 0, none⟩ (.bool k3)).setCell ⟨wK.heap.size, 1, none⟩ (.float .f32 z3)) := ⟨_, rfl⟩
                obtain ⟨p22, ep⟩ : ∃ p : Nat, p = wK.heap.size := ⟨_, rfl⟩
                have oF : Obj wF p22 87 #[.bool k3, .float .f32 z3] := by rw [eF, ep]; exact (oP.set 0 _).set 1 _
                have bKF : Below wK.heap.size wK wF := by rw [eF]; exact Below.setCell (p := ⟨wK.heap.size, 1, none⟩) (Below.setCell (p := ⟨wK.heap.size, 0, none⟩) (((Below.refl wK.heap.size wK).alloc (Nat.le_refl _) _).trans (b3.mono (by simp))) (Nat.le_refl _) _) (Nat.le_refl _) _
                rw [← eF, ← ep]
                clear n0 n1 n2 b3 eF ep
                clear k0 k1 k2
                rename_i _hHeld
                clear _hHeld
                have bGF : Below wG.heap.size wG wF := HBGK.out.trans (bKF.mono HBGK.out.size)
                have bHF : Below wG.heap.size wH wF := HBHK.out.trans (bKF.mono HBGK.out.size)
                have rF : SRow 91 wF wG.heap.size 2 (sumJ M ms pt Ta Tb s 1) := HRB.out.below (HBBK.out.trans (bKF.mono hzBK)) HRB.out.lt
                have oTF : Obj wF wB.heap.size 87 #[.bool f3, .float .f32 y3] := HOT.out.below bKF hKz
                have hsa : plusS (Ta.getD s none) (halfO ms pt s true) = stO k3 z3 := by rw [HTS.out, ← HX1.out]; exact hkz.symm
                have hsb : Tb.getD (toS M s true) none = stO f3 y3 := by rw [HTO.out]; exact HT3.out.symm
                have v0 : wF.cell? ⟨p22, 0, none⟩ = some (.bool k3) := oF.cell 0
                have v1 : wF.cell? ⟨p22, 1, none⟩ = some (.float .f32 z3) := oF.cell 1
                have v2 : wF.cell? ⟨wB.heap.size, 0, none⟩ = some (.bool f3) := oTF.cell 0
                have v3 : wF.cell? ⟨wB.heap.size, 1, none⟩ = some (.float .f32 y3) := oTF.cell 1
                have HSA := Lib.hid hsa
                have HSB := Lib.hid hsb
                have HRF := Lib.hid rF
                have HBHF := Lib.hid bHF
                have HOF := Lib.hid oF
                have HOTF := Lib.hid oTF
                clear hsa hsb rF bHF oF oTF hkz
                cases k3
                · have e9 : sumJ M ms pt Ta Tb s 2 = sumJ M ms pt Ta Tb s 1 := sumJ_none (c := true) (.inl (HSA.out.trans rfl))
                  have HE9 := Lib.hid e9
                  clear e9
                  go_wp2
                  go_roundw
                  case rel => exact ⟨2, by omega, by go_num, by rw [HE9.out]; exact HRF.out, HBHF.out⟩
                  case measure => simp [intOf]
                cases f3
                · have e9 : sumJ M ms pt Ta Tb s 2 = sumJ M ms pt Ta Tb s 1 := sumJ_none (c := true) (.inr (HSB.out.trans rfl))
                  have HE9 := Lib.hid e9
                  clear e9
                  go_wp2
                  go_roundw
                  case rel => exact ⟨2, by omega, by go_num, by rw [HE9.out]; exact HRF.out, HBHF.out⟩
                  case measure => simp [intOf]
                obtain ⟨f4, y4, d0, d1, hd⟩ := HRF.out.cells (s := 1) (by omega)
                have HLD : Hid (∀ W, Below wF.heap.size wF W → W.cell? ⟨p22, 0, none⟩ = some (.bool true) ∧ W.cell? ⟨p22, 1, none⟩ = some (.float .f32 z3) ∧ W.cell? ⟨wB.heap.size, 1, none⟩ = some (.float .f32 y3) ∧ W.cell? ⟨wG.heap.size, 2, none⟩ = some (.bool f4) ∧ W.cell? ⟨wG.heap.size, 3, none⟩ = some (.float .f32 y4)) :=
                  Lib.hid fun W hW => ⟨((HOF.out.below hW HOF.out.lt).cell 0).trans rfl, ((HOF.out.below hW HOF.out.lt).cell 1).trans rfl, ((HOTF.out.below hW HOTF.out.lt).cell 1).trans rfl, (hW.cell (p := ⟨wG.heap.size, 2, none⟩) HRF.out.lt).trans d0, (hW.cell (p := ⟨wG.heap.size, 3, none⟩) HRF.out.lt).trans d1⟩
                have HD := Lib.hid hd
                clear d0 d1 hd
                go_wp2_with fail
                refine wp_region_B RvJ 10 (D := wF.heap.size) (w0 := wF) (by kernel_rfl) (by kernel_rfl) (Below.refl _ _) ?_
                simp only [List.take_succ_cons, List.take_zero, List.drop_succ_cons, List.drop_zero]
                iterate 7 (refine wpRel_step (fun K hK => ?_); go_simp; intro W hW; obtain ⟨q0, q1, q2, q3, q4⟩ := HLD.out W hW; (try go_simp); (first | refine ⟨hW, hK _ ?_⟩ | refine hK _ ?_); clear q0 q1 q2 q3 q4 hK K hW W)
                refine wpRel_step (fun K hK => ?_)
                go_simp
                intro W hW
                refine ⟨plus_B (Nat.le_refl _) hW _ _ _, fun v hv => ?_⟩
                obtain ⟨k5, z5, rfl, hv1⟩ := rv_plus hv
                refine hK _ ?_
                clear hK K hW W hv
                refine wpRel_step (fun K hK => ?_)
                go_simp
                intro W hW
                refine ⟨join_B (Nat.le_refl _) hW _ _ _ _, fun v hv => ?_⟩
                obtain ⟨k6, z6, rfl, hv2⟩ := rv_join hv
                refine hK _ ?_
                clear hK K hW W hv
                refine wpRel_step (fun K hK => ?_)
                go_simp
                intro W hW
                (first | refine ⟨hW, hK _ ?_⟩ | refine hK _ ?_)
                clear hK K hW W
                refine wpRel_nil ?_
                intro W hW
                have rW := HRF.out.below hW HRF.out.lt
                obtain ⟨f7, y7, t0, t1, _⟩ := rW.cells (s := 1) (by omega)
                have t0 : W.cell? ⟨wG.heap.size, 2, none⟩ = some (.bool f7) := t0
                have t1 : W.cell? ⟨wG.heap.size, 3, none⟩ = some (.float .f32 y7) := t1
                have u0 := rW.frz 2
                have u1 := rW.frz 3
                have HRW := Lib.hid rW
                have HV : Hid (stO k6 z6 = sumE M ms pt Ta Tb s true ((sumJ M ms pt Ta Tb s 1).getD 1 none)) := Lib.hid (by rw [sumE_yes (HSB.out.trans rfl), HSA.out, hv2, hv1, HD.out])
                have hbWW : Below wG.heap.size wH W := HBHF.out.trans (hW.mono bGF.size)
                clear rW hv1 hv2
                go_wp2
                go_roundw
                case rel =>
                  refine ⟨2, by omega, by go_num, ?_, Below.setCell (p := ⟨wG.heap.size, 3, none⟩) (Below.setCell (p := ⟨wG.heap.size, 2, none⟩) hbWW (Nat.le_refl _) _) (Nat.le_refl _) _⟩
                  have h9 := sumJ_step (M := M) (ms := ms) (part := pt) (a := Ta) (b := Tb) (s := s) true
                  have h8 := SRow.put HRW.out (to := 1) (by omega) k6 z6 _ HV.out
                  have e9 : sumJ M ms pt Ta Tb s 2 = ((sumJ M ms pt Ta Tb s 1).set 1 (sumE M ms pt Ta Tb s true ((sumJ M ms pt Ta Tb s 1).getD 1 none))) := h9
                  rw [e9]
                  exact h8
                case measure => simp [intOf]
            · go_wp2
              go_roundw
              case rel => exact ⟨s + 1, by omega, by go_num, HR.out, hbE⟩
              case measure => simp [intOf]; omega
        · obtain rfl : S = s := by omega
          have hrC := HR0.out
          have hS : sumJ M ms pt Ta Tb S 0 = [sumT M ms xs n t false, sumT M ms xs n t true] := by rw [HSUM.out false, HSUM.out true]; rfl
          rw [hS] at hrC
          obtain ⟨f5, y5, d0, d1, hd5⟩ := hrC.cells (s := 0) (by omega)
          obtain ⟨f6, y6, d2, d3, hd6⟩ := hrC.cells (s := 1) (by omega)
          have d0 : wC.cell? ⟨wG.heap.size, 0, none⟩ = some (.bool f5) := d0
          have d1 : wC.cell? ⟨wG.heap.size, 1, none⟩ = some (.float .f32 y5) := d1
          have d2 : wC.cell? ⟨wG.heap.size, 2, none⟩ = some (.bool f6) := d2
          have d3 : wC.cell? ⟨wG.heap.size, 3, none⟩ = some (.float .f32 y6) := d3
          have hs5 : stO f5 y5 = sumT M ms xs n t false := hd5
          have hs6 : stO f6 y6 = sumT M ms xs n t true := hd6
          have hbad : (sumT M ms xs n t false = none ∨ sumT M ms xs n t true = none) → allOk (M : Int) ms xs = false := fun h => HNO.out (by
            have h2 := outT_none (outT_stop h) (n - (t + 1))
            rw [show t + 1 + (n - (t + 1)) = n by omega] at h2
            exact h2)
          have HBAD := Lib.hid hbad
          have HS5 := Lib.hid hs5
          have HS6 := Lib.hid hs6
          have hbBC : Below B0 W wC := hbB.trans (hbGC.mono (by omega))
          have hCw : Below w.heap.size w wC := hbw.trans (hbBC.mono hwB)
          have hKC : wC.heap[Dd]? = some (.deferred (some [])) := (hbBC.block Dd hDB).trans HKD.out
          have HCW := Lib.hid hCw
          have HKC := Lib.hid hKC
          have HBBC := Lib.hid hbBC
          have HBGC := Lib.hid hbGC
          have HRC := Lib.hid hrC
          clear hd5 hd6 hbad hs5 hs6 hCw hKC hbBC hbGC hrC hS HR0
          cases f5
          · go_wp2
            refine marks_ret1 rfl HKC.out (results_tmp2 rfl _ _ _) ?_
            exact all_fail (HBAD.out (.inl HS5.out.symm)) (HCW.out.trans (belowK_b (w := w) (Nat.le_refl _) _ Dd _ _ (by omega) HKC.out rfl rfl))
          cases f6
          · go_wp2
            refine marks_ret1 rfl HKC.out (results_tmp2 rfl _ _ _) ?_
            exact all_fail (HBAD.out (.inr HS6.out.symm)) (HCW.out.trans (belowK_b (w := w) (Nat.le_refl _) _ Dd _ _ (by omega) HKC.out rfl rfl))
          have hoC : Ow wC B0 46 _ (ys.map (Value.float .f32)) := own_below HOWN.out (HBGC.out.mono (by omega)) (Nat.le_refl _)
          have HOC := Lib.hid hoC
          have hlen : (ys.map (Value.float .f32)).length + 1 ≤ 1099511627776 := by rw [List.length_map, HYL.out]; omega
          have hzC := HBGC.out.size
          have hzC2 : B0 ≤ wC.heap.size := by omega
          have hx5 : sumT M ms xs n t false = some (fl .f32 y5) := HS5.out.symm
          have hx6 : sumT M ms xs n t true = some (fl .f32 y6) := HS6.out.symm
          have HNX := Lib.hid (outT_step HOUT.out hx5 hx6)
          clear hx5 hx6
          have hbaC : SRow 87 wC ba S Ta := HBA.out.below HBGC.out hbaG
          have hHC : Below B0 wH wC := HB0.out.mono (by omega)
          have hGC : Below B0 wG wC := HBGC.out.mono (by omega)
          have hFW : ∀ w6 : World, SRow 87 w6 ba S Ta → MRow M ms pt false (fun _ _ => true) w6 gm S → Calls Try.prog 50 #[.slice (some ⟨ba, 0, none⟩) S S, .slice (some ⟨gm, 0, none⟩) S S] w6 fun e w' => ∃ b, e = .returned (.slice (some ⟨b, 0, none⟩) S S) ∧ w6.heap.size ≤ b ∧ SRow 87 w' b S (fwdT M ms xs n (t + 1)) ∧ Below w6.heap.size w6 w' := fun w6 q1 q2 => by
            have h := impl_forward_c w6 M hM4 ms pt false ba gm Ta (by rw [HSS.out]; exact q1) (by rw [HSS.out]; exact q2)
            rw [HSS.out, ← HTAB.out] at h
            exact h
          have HFW := Lib.hid hFW
          clear hFW
          have HC5 := Lib.hid c5
          have HC8H := Lib.hid c8
          have HGC := Lib.hid hGC
          have HHC := Lib.hid hHC
          have HBAC := Lib.hid hbaC
          clear c5 c8 hGC hHC hbaC
          go_wp2_with (first
            | (at_builtin; refine appGW Try.underlying25 infoFloat32 rfl (by decide) rfl _ _ rfl _ _ _ rfl (own_dallocY hoC _) _ _ _ rfl (cell_new1 _ _ _) rfl hlen (by simp; omega) ?_; intro v' w6 ho6 hg6; have bH6 := ((below_drewN HHC.out _).alloc (by simp; omega) _).grown hg6 (by simp; omega) (fun k hk => (World.ownsRow.lt HOC.out k hk).1); have bG6 := ((below_drewN HGC.out _).alloc (by simp; omega) _).grown hg6 (by simp; omega) (fun k hk => (World.ownsRow.lt HOC.out k hk).1); have e8 := (bH6.cell (p := ⟨P8, 0, none⟩) hP8).trans HC8H.out; have e5 := (bH6.cell (p := ⟨g5, t, none⟩) hg5).trans HC5.out; have s6 := ((HBAC.out.below (below_drewN (Below.refl wC.heap.size wC) _) HBAC.out.lt).alloc _).kept (own_dallocY hoC _) (by decide) hg6; have hf6 := HFW.out w6 s6 (HGM.out.below bG6 hgz))
            | (go_at_call 50; refine hf6.mono ?_; rintro e w7 ⟨b7, rfl, hb7, hs7, hbel7⟩))
          go_roundw
          case rel =>
            obtain ⟨z, hz, ho7⟩ : ∃ z, fl .f32 z = fop .sub .f32 (fl .f32 y6) (fl .f32 y5) ∧ Ow w6 B0 46 v' ((ys ++ [z]).map (Value.float .f32)) := by
              refine ⟨?zz9, ?hz9, ?oz9⟩
              case oz9 => rw [List.map_append]; exact ho6
              case hz9 => exact fl_fres ..
            have hz67 : B0 ≤ w6.heap.size := Nat.le_trans (by omega) bG6.size
            exact ⟨t + 1, by omega, by go_num, ⟨b7, rfl, hs7⟩, ⟨ys ++ [z], _, HNX.out, by rw [List.map_append, HYS.out, List.map_cons, List.map_nil, hz], by rw [List.length_append, HYL.out, List.length_singleton], own_below ho7 hbel7 (Nat.le_refl _)⟩, (hbB.trans bG6).trans (hbel7.mono hz67)⟩
          case measure => simp [intOf]; omega
    · obtain rfl : t = n := by omega
      obtain ⟨A5, c5, rfl, ho5⟩ := HOWN.out.opn
      have hsl := sl_of_own ho5
      have hfin := HYES.out l HOUT.out
      have HFIN := Lib.hid hfin
      have HCF := Lib.hid (impl_areFinite_c wG wG.heap.size A5 ys.length c5 ys rfl (by rw [HYL.out]; omega) hsl)
      have HO5 := Lib.hid ho5
      have hKG : wG.heap[Dd]? = some (.deferred (some [])) := (hbB.block Dd hDB).trans HKD.out
      have HGW := Lib.hid (hbw.trans (hbB.mono hwB))
      have HKG := Lib.hid hKG
      have hall : (ys.all fun x => finB (fl .f32 x)) = l.all finB := by
        rw [← HYS.out, List.all_map]
        rfl
      obtain ⟨q0, hq0⟩ : ∃ q, l.all finB = q := ⟨_, rfl⟩
      rw [hall, hq0] at HCF
      rw [hq0] at HFIN
      clear hsl ho5 hfin hall hKG
      cases q0
      · go_wp2_with fail
        refine HCF.out.mono ?_
        rintro e w9 ⟨rfl, q9, rfl⟩
        go_wp2
        have hK2 : (wG.drewN q9).heap[Dd]? = some (.deferred (some [])) := HKG.out
        refine marks_ret1 rfl hK2 (results_tmp2 rfl _ _ _) ?_
        exact all_fail HFIN.out.1 ((below_drewN HGW.out q9).trans (belowK_b (w := w) (Nat.le_refl _) _ Dd _ _ (by omega) hK2 rfl rfl))
      · have HF1 := Lib.hid HFIN.out.1
        have HF2 := Lib.hid (HFIN.out.2 rfl)
        clear HFIN
        go_wp2_with fail
        refine HCF.out.mono ?_
        rintro e w9 ⟨rfl, q9, rfl⟩
        go_wp2
        have hK2 : (wG.drewN q9).heap[Dd]? = some (.deferred (some [])) := HKG.out
        refine marks_ret1 rfl hK2 (results_tmp2 rfl _ _ _) ?_
        refine ⟨.slice A5 ys.length c5, ys, ?_, by rw [HF2.out]; exact HYS.out, ?_, (below_drewN HGW.out q9).trans (belowK_b (w := w) (Nat.le_refl _) _ Dd _ _ (by omega) hK2 rfl rfl)⟩
        · rw [HF1.out]
          rfl
        have h := own_lower (ownsRow_putObj (W := wG.drewN q9) HO5.out (.deferred none) hK2 rfl) hwB
        unfold Ow
        rw [List.length_map]
        exact h

end Go.Proofs.Ytopeidmafalklaa


namespace Go.Proofs.Ytopeidmafalklaa
open Go.RowKit Go.Shelf

theorem infoMoveSS : (Try.prog.info? 82).map (fun i => (i.zero, i.size, i.bytes)) = some (some (.slice none 0 0), 1, 24) := by kernel_rfl
/-- what the loop over parts keeps -/
structure AWI (w : World) (D S M : Nat) (ms : List Int) (soft : List Nat) (n : Nat) (l : List Nat) (t : Nat) (C : Array Value) (P6 P8 B1 B2 : Nat) (u6 u1 u2 : Value) (W : World) : Prop where
  bel : Below w.heap.size w W
  c : Obj W w.heap.size 29 C
  x6 : Boxed W P6 3 u6
  x1 : Boxed W B1 25 u1
  x2 : Boxed W B2 3 u2
  all : ∃ gs : List Nat, gs.length = t ∧ Bufd W D P8 78 82 (gs.map (rV S)) ∧ ∀ i, i < t → w.heap.size ≤ gs.getD i 0 ∧ MRow M ms (partL ms.length soft (l.getD i 0)) (decide (n ≤ i)) (fun _ _ => true) W (gs.getD i 0) S
theorem mrow_keep {W W' : World} {B b S M : Nat} {ms : List Int} {pt : List Nat} {last : Bool} {done : Nat → Bool → Bool} {row : Option Nat} (h : MRow M ms pt last done W b S) (hg : W.grownBy W' row) (hr : ∀ r, row = some r → B ≤ r ∧ ∃ o : Go.Obj, W.heap[r]? = some o ∧ o.isCells = false) : MRow M ms pt last done W' b S := by
  obtain ⟨cs, hO, h2⟩ := h
  exact ⟨cs, obj_keep hO hg hr, h2⟩
theorem awi_own {β : Type} (w : World) (D S M : Nat) (ms : List Int) (soft : List Nat) (n : Nat) (l : β → List Nat) (t : β → Nat) (C : Array Value) (P6 P8 B1 B2 : Nat) (u6 u1 u2 : Value) (B : Nat) (h2 : w.heap.size ≤ B) :
    OwnFrom B (fun s W => AWI w D S M ms soft n (l s) (t s) C P6 P8 B1 B2 u6 u1 u2 W) := by
  rintro s W W' row ⟨a1, a2, a3, a4, a5, ⟨gs, d1, d2, d3⟩⟩ hg hr
  refine ⟨a1.grown hg a1.size fun k hk => Nat.le_trans h2 (hr k hk).1, obj_keep a2 hg hr, boxed_keep a3 hg hr, boxed_keep a4 hg hr, boxed_keep a5 hg hr, ⟨gs, d1, ?_, fun i hi => ?_⟩⟩
  · exact (bufd_own D P8 78 82 (fun _ : Unit => gs.map (rV S))).from B () W W' row d2 hg hr
  · obtain ⟨e1, e2⟩ := d3 i hi
    exact ⟨e1, mrow_keep e2 hg hr⟩

theorem Appd.mrow {W w1 : World} {D Bo : Nat} {T e : TypeId} {v v' : Value} {N n : Nat} {ys xs : List Value} (h : Appd W w1 D Bo T e v v' N ys) (hbox : Boxed W Bo T v) (hrow : W.ownsRow D e 1 v n xs) (hte : 94 ≠ e) (htT : 94 ≠ T) {b S M : Nat} {ms : List Int} {pt : List Nat} {last : Bool} {done : Nat → Bool → Bool} (hk : MRow M ms pt last done W b S) : MRow M ms pt last done (w1.setCell ⟨Bo, 0, none⟩ v') b S := by
  obtain ⟨cs, hO, h2⟩ := hk
  exact ⟨cs, h.obj hbox hrow hO hte htT, h2⟩
theorem awi_step {w wA w9 w6 : World} {D S M n t k0 P6 P8 B1 B2 b xi : Nat} {ms : List Int} {soft lp gs : List Nat} {C : Array Value} {u6 u1 u2 v5 v6 : Value}
    (hbw : Below w.heap.size w wA) (hOC : Obj wA w.heap.size 29 C) (hX6 : Boxed wA P6 3 u6) (hX1 : Boxed wA B1 25 u1) (hX2 : Boxed wA B2 3 u2) (hlp : lp.length = t) (hgl : gs.length = t)
    (hgr : ∀ i, i < t → w.heap.size ≤ gs.getD i 0 ∧ MRow M ms (partL ms.length soft (lp.getD i 0)) (decide (n ≤ i)) (fun _ _ => true) wA (gs.getD i 0) S) (hb9 : Below wA.heap.size wA w9) (hm : MRow M ms (partL ms.length soft xi) (decide (n ≤ t)) (fun _ _ => true) w9 b S) (hbb : w.heap.size ≤ b)
    (k1 : Boxed w9 P8 78 v5) (k2 : w9.ownsRow D 82 1 v5 t (gs.map (rV S))) (A6 : Appd w9 w6 D P8 78 82 v5 v6 k0 (gs.map (rV S) ++ [rV S b]))
    (hwD : w.heap.size ≤ D) (h6 : P6 ≠ P8) (h1 : B1 ≠ P8) (h2 : B2 ≠ P8) :
    AWI w D S M ms soft n (lp ++ [xi]) (t + 1) C P6 P8 B1 B2 u6 u1 u2 (w6.setCell ⟨P8, 0, none⟩ v6) := by
  have hz := hbw.size
  refine ⟨hbw.trans ((hb9.mono hz).trans (A6.bel.mono hwD)), A6.obj k1 k2 (hOC.below hb9 hOC.lt) (by decide) (by decide), A6.box k2 (boxed_below hX6 hb9 hX6.lt) (by decide) h6, A6.box k2 (boxed_below hX1 hb9 hX1.lt) (by decide) h1, A6.box k2 (boxed_below hX2 hb9 hX2.lt) (by decide) h2, ⟨gs ++ [b], by simp [hgl], ?_, fun i hi => ?_⟩⟩
  · have := A6.buf
    rw [List.map_append]
    exact this
  · by_cases h : i < t
    · obtain ⟨e1, e2⟩ := hgr i h
      have e3 : (gs ++ [b]).getD i 0 = gs.getD i 0 := by simp only [List.getD, List.getElem?_append_left (show i < gs.length by omega)]
      have e4 : (lp ++ [xi]).getD i 0 = lp.getD i 0 := by simp only [List.getD, List.getElem?_append_left (show i < lp.length by omega)]
      rw [e3, e4]
      exact ⟨e1, A6.mrow k1 k2 (by decide) (by decide) (e2.below hb9 e2.lt)⟩
    · obtain rfl : i = t := by omega
      have e3 : (gs ++ [b]).getD i 0 = b := by rw [← hgl]; simp [List.getD]
      have e4 : (lp ++ [xi]).getD i 0 = xi := by rw [← hlp]; simp [List.getD]
      rw [e3, e4]
      exact ⟨hbb, A6.mrow k1 k2 (by decide) (by decide) hm⟩


set_option maxRecDepth 100000 in
set_option maxHeartbeats 8000000 in
theorem impl_AllWays_c (w : World) (m : Int) (A : Option Addr) (k cap : Nat) (ms : List Int) (hl : ms.length = k) (hk : k ≤ 1048576) (hx : Sl w w.heap.size A (ms.map (Value.int .i64)))
    (A2 : Option Addr) (n2 cap2 : Nat) (xs : List Nat) (hl2 : xs.length = n2) (hn2 : n2 ≤ 1048576) (hy : Sl w w.heap.size A2 (xs.map (Value.float .f32))) (hA : RowA A2 n2 cap2) :
    Calls Try.prog 9 #[.agg #[.int .i64 m, .slice A k cap], .slice A2 n2 cap2] w (AllPost w m ms xs) := by
  obtain ⟨w1, e1⟩ : ∃ q : World, q = w.alloc (.cells #[.int .i64 m, .slice A k cap] 29) := ⟨_, rfl⟩
  have b1 : Below w.heap.size w w1 := by rw [e1]; exact (Below.refl _ _).alloc (Nat.le_refl _) _
  have z1 : w1.heap.size = w.heap.size + 1 := by rw [e1]; simp
  have hO : Obj w1 w.heap.size 29 #[.int .i64 m, .slice A k cap] := by rw [e1]; exact Obj.new _ _ _
  have HV := Lib.hid (impl_sentBits_c w1 m A k cap ms hl hk ((hx.below b1).more b1.size) A2 n2 cap2 xs hl2 hn2 ((hy.below b1).more b1.size))
  obtain ⟨⟨C0, C1⟩, -⟩ := hO.two
  have HO := Lib.hid hO
  have HX := Lib.hid hx
  have HY := Lib.hid hy
  clear hx hy hO
  cases hs : sentOk m ms xs
  · have hbo : allOk m ms xs = false := allw_not hs
    rw [hs] at HV
    have HBO := Lib.hid hbo
    clear hs hbo
    refine calls_marks Try.func9 rfl ?_
    simp only [Try.ntmps9, List.size_toArray, List.length_cons, List.length_nil, Nat.reduceAdd, Nat.reduceSub, Array.replicate_succ, Array.replicate_zero, List.push_toArray, List.append_toArray, List.nil_append, List.cons_append]
    go_wp2_with (rw [← e1]; clear e1)
    refine HV.out.mono ?_
    rintro e w2 ⟨rfl, b2⟩
    go_wp2
    refine marks_ret0 (results_tmp2 rfl _ _ _) rfl ?_
    exact all_fail HBO.out ((b1.trans (b2.mono b1.size)).alloc (by have := b2.size; omega) _)
  · obtain ⟨M, n, rfl, hM1, hM4, hk1, hk4, hr, hn, hsn, hnn, hx160⟩ := sent_facts hs
    rw [hl] at hk1 hk4 hnn
    rw [hl2] at hnn hx160
    rw [hs] at HV
    have hsv : sentV (M : Int) ms xs = (n : Int) := by
      have hsb : sentB (M : Int) ms xs = true := by
        unfold sentOk at hs
        simp only [Bool.and_eq_true] at hs
        exact hs.1.1
      unfold sentV
      rw [hsb, if_pos rfl, hsn]
    rw [hsv] at HV
    have hno : outT M ms xs n n = none → allOk (M : Int) ms xs = false := fun h => all_none hsn h
    have hyes : ∀ l, outT M ms xs n n = some l → allOk (M : Int) ms xs = l.all finB ∧ (l.all finB = true → allL (M : Int) ms xs = l) := fun l h => all_some hs hsn h
    have hn2p : 0 < n2 := by rw [← hnn]; exact Nat.mul_pos (by omega) (by omega)
    obtain ⟨g2, rfl, hcap, hcapm⟩ : ∃ g2, A2 = some ⟨g2, 0, none⟩ ∧ n2 ≤ cap2 ∧ cap2 ≤ maxLen := by
      rcases hA with ⟨_, h0, _⟩ | h
      · omega
      · exact h
    unfold maxLen at hcapm
    obtain ⟨S, hS⟩ : ∃ S : Nat, 2 ^ M = S := ⟨_, rfl⟩
    have hSI : (2 : Int) ^ M = (S : Int) := by rw [← hS]; push_cast; rfl
    have hS16 : S ≤ 16 := by rw [← hS]; exact Nat.pow_le_pow_right (n := 2) (by decide) hM4
    have hS1 : 1 ≤ S := by rw [← hS]; exact Nat.pow_pos (by decide)
    have hst := fun W : World => impl_states_c W M hM1 hM4 A k cap
    rw [hSI] at hst
    have HSS := Lib.hid hS
    have HNN := Lib.hid hnn
    have HST := Lib.hid hst
    have HNO := Lib.hid hno
    have HYES := Lib.hid hyes
    have hch : chN k n2 = n + M := by
      unfold chN
      rw [← hnn]
      have h0 : 0 < k := hk1
      rw [show (n + M) * k + (k - 1) = (k - 1) + (n + M) * k by omega, Nat.add_mul_div_right _ _ h0, Nat.div_eq_of_lt (by omega)]
      omega
    have HCH := Lib.hid hch
    clear hs hsn hnn hsv hS hSI hst hA hch hno hyes
    refine calls_marks Try.func9 rfl ?_
    simp only [Try.ntmps9, List.size_toArray, List.length_cons, List.length_nil, Nat.reduceAdd, Nat.reduceSub, Array.replicate_succ, Array.replicate_zero, List.push_toArray, List.append_toArray, List.nil_append, List.cons_append]
    go_wp2_with (rw [← e1]; clear e1)
    refine HV.out.mono ?_
    rintro e w2 ⟨rfl, b2⟩
    have B2 : Below w.heap.size w w2 := b1.trans (b2.mono b1.size)
    have z2 := b2.size
    have O2 := HO.out.below b2 HO.out.lt
    clear C0 C1
    obtain ⟨⟨C0, C1⟩, -⟩ := O2.two
    obtain ⟨w3, e3⟩ : ∃ q : World, q = w2.alloc (.cells #[.int .i64 (n : Int)] 3) := ⟨_, rfl⟩
    have X3 : Boxed w3 w2.heap.size 3 (.int .i64 (n : Int)) := by rw [e3]; exact Boxed.new _ _ _
    have B3 : Below w.heap.size w w3 := by rw [e3]; exact B2.alloc (by omega) _
    have z3 : w3.heap.size = w2.heap.size + 1 := by rw [e3]; simp
    have O3 : Obj w3 w.heap.size 29 #[.int .i64 (M : Int), .slice A k cap] := by rw [e3]; exact O2.alloc _
    obtain ⟨w7, e7⟩ : ∃ q : World, q = (w3.alloc (.cells #[] 82)).alloc (.cells #[.slice (some ⟨w2.heap.size + 1, 0, none⟩) 0 0] 78) := ⟨_, rfl⟩
    have B7 : Below w.heap.size w w7 := by rw [e7]; exact (B3.alloc (by omega) _).alloc (by simp; omega) _
    have O7 : Obj w7 w.heap.size 29 #[.int .i64 (M : Int), .slice A k cap] := by rw [e7]; exact (O3.alloc _).alloc _
    have X7 : Boxed w7 w2.heap.size 3 (.int .i64 (n : Int)) := by rw [e7]; exact (X3.alloc _).alloc _
    have z7 : w7.heap.size = w2.heap.size + 1 + 1 + 1 := by rw [e7]; simp; omega
    have Y7 : Bufd w7 (w2.heap.size + 1) (w2.heap.size + 1 + 1) 78 82 [] := by
      have h1 := own_empty w3 (w2.heap.size + 1) 82 (by omega)
      rw [z3] at h1
      have h2 := Boxed.new (w3.alloc (.cells #[] 82)) 78 (.slice (some ⟨w2.heap.size + 1, 0, none⟩) 0 0)
      rw [World.size_alloc, z3] at h2
      rw [e7]
      exact ⟨_, h2, World.ownsRow.alloc h1 _, _, _, rfl⟩
    have F1 : w7.cell? ⟨w.heap.size, 1, none⟩ = some (.slice A k cap) := O7.cell 1
    clear X3 O2 O3
    go_wp2_with (first | (rw [← e3]; clear e3) | (rw [← e7]; clear e7) | (go_at_call 43; refine ((callsIn_wide (n := 3)).1 (Chunk_float32_in 3 (some ⟨g2, 0, none⟩) n2 cap2 k hk1 _)).mono ?_; rintro e w8 ⟨rfl, rfl⟩))
    have hbx1 := Boxed.new w7 25 (.slice (some ⟨g2, 0, none⟩) n2 cap2)
    have hbx2 := Boxed.new (w7.alloc (.cells #[.slice (some ⟨g2, 0, none⟩) n2 cap2] 25)) 3 (.int .i64 (k : Int))
    rw [World.size_alloc] at hbx2
    rw [z7] at hbx1 hbx2
    obtain ⟨w8, e8⟩ : ∃ q : World, q = (w7.alloc (.cells #[.slice (some ⟨g2, 0, none⟩) n2 cap2] 25)).alloc (.cells #[.int .i64 (k : Int)] 3) := ⟨_, rfl⟩
    have z8 : w8.heap.size = w7.heap.size + 2 := by rw [e8]; simp
    have X81 : Boxed w8 (w2.heap.size + 1 + 1 + 1) 25 (.slice (some ⟨g2, 0, none⟩) n2 cap2) := by rw [e8]; exact hbx1.alloc _
    have X82 : Boxed w8 (w2.heap.size + 1 + 1 + 1 + 1) 3 (.int .i64 (k : Int)) := by rw [e8]; exact hbx2
    have I8 : AWI w (w2.heap.size + 1) S M ms xs n [] 0 #[.int .i64 (M : Int), .slice A k cap] w2.heap.size (w2.heap.size + 1 + 1) (w2.heap.size + 1 + 1 + 1) (w2.heap.size + 1 + 1 + 1 + 1) (.int .i64 (n : Int)) (.slice (some ⟨g2, 0, none⟩) n2 cap2) (.int .i64 (k : Int)) w8 := by
      refine ⟨by rw [e8]; exact (B7.alloc B7.size _).alloc (by have := B7.size; simp; omega) _, by rw [e8]; exact (O7.alloc _).alloc _, by rw [e8]; exact (X7.alloc _).alloc _, X81, X82, ⟨[], rfl, ?_, fun i hi => absurd hi (Nat.not_lt_zero _)⟩⟩
      rw [e8]
      obtain ⟨v, k1, k2, k3⟩ := Y7
      exact ⟨v, (k1.alloc _).alloc _, World.ownsRow.alloc (World.ownsRow.alloc k2 _) _, k3⟩
    rw [← e8]
    have hw1z := b1.size
    clear e8 hbx1 hbx2 X7 Y7 O7 F1 X81 X82 C0 C1
    refine wp_chunk_float32' 37 9 (w2.heap.size + 1 + 1 + 1) (w2.heap.size + 1 + 1 + 1 + 1) g2 0 n2 cap2 k (some ⟨g2, 0, none⟩) rfl rfl (.inl rfl) hk1 (by omega) hn2 hcap hcapm (fun h => by cases h) (by omega) (by omega) I8.x1.cell I8.x2.cell
      (fun pre W => AWI w (w2.heap.size + 1) S M ms xs n (pre.map (·.1)) pre.length #[.int .i64 (M : Int), .slice A k cap] w2.heap.size (w2.heap.size + 1 + 1) (w2.heap.size + 1 + 1 + 1) (w2.heap.size + 1 + 1 + 1 + 1) (.int .i64 (n : Int)) (.slice (some ⟨g2, 0, none⟩) n2 cap2) (.int .i64 (k : Int)) W)
      (awi_own w (w2.heap.size + 1) S M ms xs n _ _ _ _ _ _ _ _ _ _ _ (by omega)) I8 ?assign ?body ?done
    case assign =>
      intro l x W K hK
      gi_wp2
      have he : ∀ (aa : Act) (oo : Oper), oo.op = .assign (.tmp 37) → Oper.semAt (some l) aa.eval oo = execOp aa.eval oo := fun aa oo h => Oper.semAt_eq _ _ _ (fun c hc => by rw [h] at hc; cases hc)
      rw [he _ _ rfl]
      go_simp
      gi_wp2
      exact hK
    case body =>
      intro l pre x W hI hlp
      obtain ⟨wA, rfl⟩ : ∃ wA : World, wA = W := ⟨_, rfl⟩
      obtain ⟨hbw, hOc, hx6, hx1, hx2, ⟨gs, hgl, hbf, hgr⟩⟩ := hI
      obtain ⟨t, et⟩ : ∃ t, pre.length = t := ⟨_, rfl⟩
      obtain ⟨lp, elp⟩ : ∃ lp, pre.map (·.1) = lp := ⟨_, rfl⟩
      obtain ⟨xi, exi⟩ : ∃ xi, x.1 = xi := ⟨_, rfl⟩
      have hlp2 : lp.length = t := by rw [← elp, List.length_map, et]
      have hxN : xi < n + M := by have h2 : x.1 < chN k n2 := x.2; have h3 : chN k n2 = n + M := HCH.out; omega
      rw [elp, et] at hgr
      rw [et] at hgl
      rw [et, HCH.out] at hlp
      obtain ⟨pt, ept⟩ : ∃ pt, partL k xs xi = pt := ⟨_, rfl⟩
      obtain ⟨la, ela⟩ : ∃ la, decide (n ≤ t) = la := ⟨_, rfl⟩
      have hlo1 : k * xi + k ≤ n2 := by
        rw [← HNN.out, Nat.mul_comm k xi, ← Nat.succ_mul]
        exact Nat.mul_le_mul_right k hxN
      obtain ⟨lo, elo⟩ : ∃ lo, k * xi = lo := ⟨_, rfl⟩
      rw [elo] at hlo1
      have hcv : chV g2 0 k n2 x.1 = .slice (some ⟨g2, lo, none⟩) k k := by
        unfold chV
        rw [exi, elo, Nat.zero_add, show min k (n2 - lo) = k by omega]
      have hpt : pt = (xs.drop lo).take k := by rw [← ept, ← elo, Nat.mul_comm]; rfl
      have hptl : pt.length = k := by rw [hpt]; simp; omega
      rw [hcv]
      simp only [List.setIfInBounds_toArray, List.set_cons_succ, List.set_cons_zero]
      obtain ⟨v5, k1, k2, g5, cap5, rfl⟩ := hbf
      have hbl5 : (gs.map (rV S)).length = t := by rw [List.length_map, hgl]
      rw [hbl5] at k1 k2
      have c8 := k1.cell
      have c6 := hx6.cell
      obtain ⟨⟨c0, c1⟩, -⟩ := hOc.two
      have hnd2 : decide (n ≤ t) = la := ela
      have hDA : w2.heap.size + 1 ≤ wA.heap.size := by have := k1.lt; omega
      have hnd : decide ((n : Int) ≤ (t : Int)) = la := by rw [← ela]; exact decide_eq_decide.2 (by omega)
      have hyA : Sl wA w.heap.size (some ⟨g2, lo, none⟩) (pt.map (Value.float .f32)) := by
        have := sl_part (HY.out.below hbw) lo k
        rw [Nat.zero_add] at this
        rw [hpt, List.map_take, List.map_drop]
        exact this
      have HMV := Lib.hid (impl_moves_c wA.drew M hM1 hM4 A k cap ms hl hk1 hk4 hr ((HX.out.below (below_drewN hbw 1)).more hbw.size) (some ⟨g2, lo, none⟩) k pt hptl ((hyA.drewN 1).more hbw.size) la)
      have ht44 : t ≤ 44 := by omega
      have HPK : Hid (∀ (b : Nat) (w9 : World), w.heap.size ≤ b → MRow M ms pt la (fun _ _ => true) w9 b S → Below wA.heap.size wA w9 →
          w9.cell? ⟨w2.heap.size + 1 + 1, 0, none⟩ = some (.slice (some ⟨g5, 0, none⟩) t cap5) ∧ (w9.alloc (.cells #[.slice (some ⟨b, 0, none⟩) S S] 82)).cell? ⟨w2.heap.size + 1 + 1, 0, none⟩ = some (.slice (some ⟨g5, 0, none⟩) t cap5) ∧
          Ow (w9.alloc (.cells #[.slice (some ⟨b, 0, none⟩) S S] 82)) (w2.heap.size + 1) 82 (.slice (some ⟨g5, 0, none⟩) t cap5) (gs.map (rV S)) ∧ w2.heap.size + 1 ≤ (w9.alloc (.cells #[.slice (some ⟨b, 0, none⟩) S S] 82)).heap.size ∧
          ∀ (v6 : Value) (w6 : World), Ow w6 (w2.heap.size + 1) 82 v6 (gs.map (rV S) ++ [rV S b]) → (w9.alloc (.cells #[.slice (some ⟨b, 0, none⟩) S S] 82)).grownBy w6 (Value.slice (some ⟨g5, 0, none⟩) t cap5).ownBlock →
            w6.cell? ⟨w2.heap.size + 1 + 1, 0, none⟩ = some (.slice (some ⟨g5, 0, none⟩) t cap5) ∧ w6.frozen? ⟨w2.heap.size + 1 + 1, 0, none⟩ = false ∧ (∃ g6 cap6, v6 = .slice (some ⟨g6, 0, none⟩) (t + 1) cap6) ∧
            KeepsOthers wA (w6.setCell ⟨w2.heap.size + 1 + 1, 0, none⟩ v6) ∧ AWI w (w2.heap.size + 1) S M ms xs n (lp ++ [xi]) (t + 1) #[.int .i64 (M : Int), .slice A k cap] w2.heap.size (w2.heap.size + 1 + 1) (w2.heap.size + 1 + 1 + 1) (w2.heap.size + 1 + 1 + 1 + 1) (.int .i64 (n : Int)) (.slice (some ⟨g2, 0, none⟩) n2 cap2) (.int .i64 (k : Int)) (w6.setCell ⟨w2.heap.size + 1 + 1, 0, none⟩ v6)) := Lib.hid (by
        intro b w9 hb hm hb9
        have k19 := boxed_below k1 hb9 k1.lt
        have k29 := own_below k2 hb9 (Nat.le_refl _)
        have hz9 := hb9.size
        have hown : Ow w9 (w2.heap.size + 1) 82 (.slice (some ⟨g5, 0, none⟩) t cap5) (gs.map (rV S)) := by
          unfold Ow
          rw [hbl5]
          exact k29
        refine ⟨k19.cell, (k19.alloc _).cell, World.ownsRow.alloc hown _, by simp; omega, fun v6 w6 ho6 hg6 => ?_⟩
        have h9 : (gs.map (rV S) ++ [rV S b]).length = t + 1 := by rw [List.length_append, hbl5]; rfl
        have hrow9 : w6.ownsRow (w2.heap.size + 1) 82 1 v6 (t + 1) (gs.map (rV S) ++ [rV S b]) := by
          unfold Ow at ho6
          rw [h9] at ho6
          exact ho6
        have hA := appd_of (w1 := w6) (v' := v6) (N := t + 1) (ys := gs.map (rV S) ++ [rV S b]) k19 (by decide) k29 (by omega) (by omega) (grown_allocW w9 _) rfl hrow9 hg6 (by omega)
        refine ⟨hA.old.cell, hA.old.frozen, hA.form, (keeps_below hb9).trans hA.oth, ?_⟩
        exact awi_step hbw hOc hx6 hx1 hx2 hlp2 hgl hgr hb9 (by rw [hl, ept, ela]; exact hm) hb k19 k29 hA (by omega) (by omega) (by omega) (by omega))
      have hx1c := hx1
      have HX1 := Lib.hid hx1
      have HX2 := Lib.hid hx2
      have hlen : (gs.map (rV S)).length + 1 ≤ 1099511627776 := by rw [hbl5]; omega
      have HT := Lib.hid et
      have HLP := Lib.hid elp
      have HXI := Lib.hid exi
      have HEND : Hid (∀ W, KeepsOthers wA W → AWI w (w2.heap.size + 1) S M ms xs n (lp ++ [xi]) (t + 1) #[.int .i64 (M : Int), .slice A k cap] w2.heap.size (w2.heap.size + 1 + 1) (w2.heap.size + 1 + 1 + 1) (w2.heap.size + 1 + 1 + 1 + 1) (.int .i64 (n : Int)) (.slice (some ⟨g2, 0, none⟩) n2 cap2) (.int .i64 (k : Int)) W →
          KeepsFrom w8.heap.size wA W ∧ KpB (w2.heap.size + 1 + 1 + 1) (w2.heap.size + 1 + 1 + 1 + 1) wA W ∧ AWI w (w2.heap.size + 1) S M ms xs n ((pre ++ [x]).map (·.1)) (pre ++ [x]).length #[.int .i64 (M : Int), .slice A k cap] w2.heap.size (w2.heap.size + 1 + 1) (w2.heap.size + 1 + 1 + 1) (w2.heap.size + 1 + 1 + 1 + 1) (.int .i64 (n : Int)) (.slice (some ⟨g2, 0, none⟩) n2 cap2) (.int .i64 (k : Int)) W) := Lib.hid (by
        intro W hK hfin
        refine ⟨hK.from _, ⟨hfin.x1.trans HX1.out.symm, hfin.x2.trans HX2.out.symm⟩, ?_⟩
        have e1 : (pre ++ [x]).map (·.1) = lp ++ [xi] := by rw [List.map_append, HLP.out, List.map_cons, List.map_nil, HXI.out]
        have e2 : (pre ++ [x]).length = t + 1 := by rw [List.length_append, HT.out, List.length_singleton]
        rw [e1, e2]
        exact hfin)
      have hbz := hbw.size
      clear hx1c et elp exi hlp2 hcv hpt hOc hx6 hx1 hx2 hgl hgr hyA ept ela hbl5 k1 k2 I8 hbw
      gi_wp2_with fail
      refine roundRegion (by kernel_rfl) (by decide) (by rintro ⟨a, w, h⟩; exact h) ?_
      change wpAny _ _ _ _ _ _ _ (World.drew _)
      refine wpAny_take (i := 2) (v := .slice (some ⟨g2, lo, none⟩) k k) rfl (by kernel_rfl) (by kernel_rfl) (by kernel_rfl) (fun _ _ _ h => h) (Or.inl ⟨by rfl, fun w' => by go_simp⟩) ?_
      refine wpAny_ready (rs := [0, 1, 3, 5]) (by kernel_rfl) (by simp) ?_
      refine AllReady.cons rfl (fun K hK => ?_) ?_
      · go_simp
        refine hK _ _ ?_
        clear hK K
        refine wpAny_ready (rs := [1, 3, 5]) (by kernel_rfl) (by simp) ?_
        refine AllReady.cons rfl (fun K hK => ?_) ?_
        · go_simp
          refine hK _ _ ?_
          clear hK K
          refine wpAny_ready (rs := [3, 5]) (by kernel_rfl) (by simp) ?_
          refine AllReady.cons rfl (fun K hK => ?_) ?_
          · go_simp
            refine hK _ _ ?_
            clear hK K
            refine wpAny_take (i := 4) (v := .int .i64 (t : Int)) rfl (by kernel_rfl) (by kernel_rfl) (by kernel_rfl) (fun _ _ _ h => h) (Or.inl ⟨by rfl, fun w' => by go_simp⟩) ?_
            refine wpAny_ready (rs := [5]) (by kernel_rfl) (by simp) ?_
            refine AllReady.cons rfl (fun K hK => ?_) ?_
            · go_simp
              refine hK _ _ ?_
              clear hK K
              refine wpAny_take (i := 6) (v := .bool la) rfl (by kernel_rfl) (by kernel_rfl) (by kernel_rfl) (fun _ _ _ h => h) (Or.inl ⟨by rfl, fun w' => by go_simp⟩) ?_
              refine wpAny_ready (rs := [7]) (by kernel_rfl) (by simp) ?_
              refine AllReady.cons rfl (fun K hK => ?_) ?_
              · go_simp
                refine HMV.out.mono ?_
                rintro e w9 ⟨b, rfl, hb, hm, hb9⟩
                rw [HSS.out] at hm ⊢
                obtain ⟨c9, qa, hrow9, hdb9, happ⟩ := HPK.out b w9 (Nat.le_trans hbz hb) hm (below_undrew hb9)
                clear hb9 hm hb
                go_simp
                refine hK _ _ ?_
                clear hK K
                refine wpAny_ready (rs := [8]) (by kernel_rfl) (by simp) ?_
                refine AllReady.cons rfl (fun K hK => ?_) ?_
                · go_simp
                  refine hK _ _ ?_
                  clear hK K
                  refine wpAny_ready (rs := [9]) (by kernel_rfl) (by simp) ?_
                  refine AllReady.cons rfl (fun K hK => ?_) ?_
                  · refine step_app1 Try.underlying78 infoMoveSS rfl (by decide) (by rfl) _ _ (by rfl) (w2.heap.size + 1) (.slice (some ⟨g5, 0, none⟩) t cap5) _ (by rfl) hrow9 _ _ (rV S b) (by rfl) (cell_new1 _ _ _) rfl hlen hdb9 ?_
                    intro v6 w6 ho6 hg6
                    obtain ⟨c6n, f6n, ⟨g6, cap6, rfl⟩, hko, hfin⟩ := happ v6 w6 ho6 hg6
                    refine hK _ _ ?_
                    clear hK K
                    refine wpAny_ready (rs := [10]) (by kernel_rfl) (by simp) ?_
                    refine AllReady.cons rfl (fun K hK => ?_) ?_
                    · go_simp
                      refine hK _ _ ?_
                      clear hK K
                      refine wpAny_done (by kernel_rfl) ?_ _
                      exact HEND.out _ hko hfin
                    exact AllReady.nil
                  exact AllReady.nil
                exact AllReady.nil
              exact AllReady.nil
            exact AllReady.nil
          refine AllReady.cons rfl (fun K hK => ?_) ?_
          · go_simp
            refine hK _ _ ?_
            clear hK K
            refine wpAny_ready (rs := [3]) (by kernel_rfl) (by simp) ?_
            refine AllReady.cons rfl (fun K hK => ?_) ?_
            · go_simp
              refine hK _ _ ?_
              clear hK K
              refine wpAny_take (i := 4) (v := .int .i64 (t : Int)) rfl (by kernel_rfl) (by kernel_rfl) (by kernel_rfl) (fun _ _ _ h => h) (Or.inl ⟨by rfl, fun w' => by go_simp⟩) ?_
              refine wpAny_take (i := 6) (v := .bool la) rfl (by kernel_rfl) (by kernel_rfl) (by kernel_rfl) (fun _ _ _ h => h) (Or.inl ⟨by rfl, fun w' => by go_simp⟩) ?_
              refine wpAny_ready (rs := [7]) (by kernel_rfl) (by simp) ?_
              refine AllReady.cons rfl (fun K hK => ?_) ?_
              · go_simp
                refine HMV.out.mono ?_
                rintro e w9 ⟨b, rfl, hb, hm, hb9⟩
                rw [HSS.out] at hm ⊢
                obtain ⟨c9, qa, hrow9, hdb9, happ⟩ := HPK.out b w9 (Nat.le_trans hbz hb) hm (below_undrew hb9)
                clear hb9 hm hb
                go_simp
                refine hK _ _ ?_
                clear hK K
                refine wpAny_ready (rs := [8]) (by kernel_rfl) (by simp) ?_
                refine AllReady.cons rfl (fun K hK => ?_) ?_
                · go_simp
                  refine hK _ _ ?_
                  clear hK K
                  refine wpAny_ready (rs := [9]) (by kernel_rfl) (by simp) ?_
                  refine AllReady.cons rfl (fun K hK => ?_) ?_
                  · refine step_app1 Try.underlying78 infoMoveSS rfl (by decide) (by rfl) _ _ (by rfl) (w2.heap.size + 1) (.slice (some ⟨g5, 0, none⟩) t cap5) _ (by rfl) hrow9 _ _ (rV S b) (by rfl) (cell_new1 _ _ _) rfl hlen hdb9 ?_
                    intro v6 w6 ho6 hg6
                    obtain ⟨c6n, f6n, ⟨g6, cap6, rfl⟩, hko, hfin⟩ := happ v6 w6 ho6 hg6
                    refine hK _ _ ?_
                    clear hK K
                    refine wpAny_ready (rs := [10]) (by kernel_rfl) (by simp) ?_
                    refine AllReady.cons rfl (fun K hK => ?_) ?_
                    · go_simp
                      refine hK _ _ ?_
                      clear hK K
                      refine wpAny_done (by kernel_rfl) ?_ _
                      exact HEND.out _ hko hfin
                    exact AllReady.nil
                  exact AllReady.nil
                exact AllReady.nil
              exact AllReady.nil
            exact AllReady.nil
          exact AllReady.nil
        refine AllReady.cons rfl (fun K hK => ?_) ?_
        · go_simp
          refine hK _ _ ?_
          clear hK K
          refine wpAny_take (i := 4) (v := .int .i64 (t : Int)) rfl (by kernel_rfl) (by kernel_rfl) (by kernel_rfl) (fun _ _ _ h => h) (Or.inl ⟨by rfl, fun w' => by go_simp⟩) ?_
          refine wpAny_ready (rs := [1, 5]) (by kernel_rfl) (by simp) ?_
          refine AllReady.cons rfl (fun K hK => ?_) ?_
          · go_simp
            refine hK _ _ ?_
            clear hK K
            refine wpAny_ready (rs := [5]) (by kernel_rfl) (by simp) ?_
            refine AllReady.cons rfl (fun K hK => ?_) ?_
            · go_simp
              refine hK _ _ ?_
              clear hK K
              refine wpAny_take (i := 6) (v := .bool la) rfl (by kernel_rfl) (by kernel_rfl) (by kernel_rfl) (fun _ _ _ h => h) (Or.inl ⟨by rfl, fun w' => by go_simp⟩) ?_
              refine wpAny_ready (rs := [7]) (by kernel_rfl) (by simp) ?_
              refine AllReady.cons rfl (fun K hK => ?_) ?_
              · go_simp
                refine HMV.out.mono ?_
                rintro e w9 ⟨b, rfl, hb, hm, hb9⟩
                rw [HSS.out] at hm ⊢
                obtain ⟨c9, qa, hrow9, hdb9, happ⟩ := HPK.out b w9 (Nat.le_trans hbz hb) hm (below_undrew hb9)
                clear hb9 hm hb
                go_simp
                refine hK _ _ ?_
                clear hK K
                refine wpAny_ready (rs := [8]) (by kernel_rfl) (by simp) ?_
                refine AllReady.cons rfl (fun K hK => ?_) ?_
                · go_simp
                  refine hK _ _ ?_
                  clear hK K
                  refine wpAny_ready (rs := [9]) (by kernel_rfl) (by simp) ?_
                  refine AllReady.cons rfl (fun K hK => ?_) ?_
                  · refine step_app1 Try.underlying78 infoMoveSS rfl (by decide) (by rfl) _ _ (by rfl) (w2.heap.size + 1) (.slice (some ⟨g5, 0, none⟩) t cap5) _ (by rfl) hrow9 _ _ (rV S b) (by rfl) (cell_new1 _ _ _) rfl hlen hdb9 ?_
                    intro v6 w6 ho6 hg6
                    obtain ⟨c6n, f6n, ⟨g6, cap6, rfl⟩, hko, hfin⟩ := happ v6 w6 ho6 hg6
                    refine hK _ _ ?_
                    clear hK K
                    refine wpAny_ready (rs := [10]) (by kernel_rfl) (by simp) ?_
                    refine AllReady.cons rfl (fun K hK => ?_) ?_
                    · go_simp
                      refine hK _ _ ?_
                      clear hK K
                      refine wpAny_done (by kernel_rfl) ?_ _
                      exact HEND.out _ hko hfin
                    exact AllReady.nil
                  exact AllReady.nil
                exact AllReady.nil
              exact AllReady.nil
            exact AllReady.nil
          refine AllReady.cons rfl (fun K hK => ?_) ?_
          · go_simp
            refine hK _ _ ?_
            clear hK K
            refine wpAny_take (i := 6) (v := .bool la) rfl (by kernel_rfl) (by kernel_rfl) (by kernel_rfl) (fun _ _ _ h => h) (Or.inl ⟨by rfl, fun w' => by go_simp⟩) ?_
            refine wpAny_ready (rs := [1]) (by kernel_rfl) (by simp) ?_
            refine AllReady.cons rfl (fun K hK => ?_) ?_
            · go_simp
              refine hK _ _ ?_
              clear hK K
              refine wpAny_ready (rs := [7]) (by kernel_rfl) (by simp) ?_
              refine AllReady.cons rfl (fun K hK => ?_) ?_
              · go_simp
                refine HMV.out.mono ?_
                rintro e w9 ⟨b, rfl, hb, hm, hb9⟩
                rw [HSS.out] at hm ⊢
                obtain ⟨c9, qa, hrow9, hdb9, happ⟩ := HPK.out b w9 (Nat.le_trans hbz hb) hm (below_undrew hb9)
                clear hb9 hm hb
                go_simp
                refine hK _ _ ?_
                clear hK K
                refine wpAny_ready (rs := [8]) (by kernel_rfl) (by simp) ?_
                refine AllReady.cons rfl (fun K hK => ?_) ?_
                · go_simp
                  refine hK _ _ ?_
                  clear hK K
                  refine wpAny_ready (rs := [9]) (by kernel_rfl) (by simp) ?_
                  refine AllReady.cons rfl (fun K hK => ?_) ?_
                  · refine step_app1 Try.underlying78 infoMoveSS rfl (by decide) (by rfl) _ _ (by rfl) (w2.heap.size + 1) (.slice (some ⟨g5, 0, none⟩) t cap5) _ (by rfl) hrow9 _ _ (rV S b) (by rfl) (cell_new1 _ _ _) rfl hlen hdb9 ?_
                    intro v6 w6 ho6 hg6
                    obtain ⟨c6n, f6n, ⟨g6, cap6, rfl⟩, hko, hfin⟩ := happ v6 w6 ho6 hg6
                    refine hK _ _ ?_
                    clear hK K
                    refine wpAny_ready (rs := [10]) (by kernel_rfl) (by simp) ?_
                    refine AllReady.cons rfl (fun K hK => ?_) ?_
                    · go_simp
                      refine hK _ _ ?_
                      clear hK K
                      refine wpAny_done (by kernel_rfl) ?_ _
                      exact HEND.out _ hko hfin
                    exact AllReady.nil
                  exact AllReady.nil
                exact AllReady.nil
              exact AllReady.nil
            exact AllReady.nil
          exact AllReady.nil
        refine AllReady.cons rfl (fun K hK => ?_) ?_
        · go_simp
          refine hK _ _ ?_
          clear hK K
          refine wpAny_ready (rs := [1, 3]) (by kernel_rfl) (by simp) ?_
          refine AllReady.cons rfl (fun K hK => ?_) ?_
          · go_simp
            refine hK _ _ ?_
            clear hK K
            refine wpAny_ready (rs := [3]) (by kernel_rfl) (by simp) ?_
            refine AllReady.cons rfl (fun K hK => ?_) ?_
            · go_simp
              refine hK _ _ ?_
              clear hK K
              refine wpAny_take (i := 4) (v := .int .i64 (t : Int)) rfl (by kernel_rfl) (by kernel_rfl) (by kernel_rfl) (fun _ _ _ h => h) (Or.inl ⟨by rfl, fun w' => by go_simp⟩) ?_
              refine wpAny_take (i := 6) (v := .bool la) rfl (by kernel_rfl) (by kernel_rfl) (by kernel_rfl) (fun _ _ _ h => h) (Or.inl ⟨by rfl, fun w' => by go_simp⟩) ?_
              refine wpAny_ready (rs := [7]) (by kernel_rfl) (by simp) ?_
              refine AllReady.cons rfl (fun K hK => ?_) ?_
              · go_simp
                refine HMV.out.mono ?_
                rintro e w9 ⟨b, rfl, hb, hm, hb9⟩
                rw [HSS.out] at hm ⊢
                obtain ⟨c9, qa, hrow9, hdb9, happ⟩ := HPK.out b w9 (Nat.le_trans hbz hb) hm (below_undrew hb9)
                clear hb9 hm hb
                go_simp
                refine hK _ _ ?_
                clear hK K
                refine wpAny_ready (rs := [8]) (by kernel_rfl) (by simp) ?_
                refine AllReady.cons rfl (fun K hK => ?_) ?_
                · go_simp
                  refine hK _ _ ?_
                  clear hK K
                  refine wpAny_ready (rs := [9]) (by kernel_rfl) (by simp) ?_
                  refine AllReady.cons rfl (fun K hK => ?_) ?_
                  · refine step_app1 Try.underlying78 infoMoveSS rfl (by decide) (by rfl) _ _ (by rfl) (w2.heap.size + 1) (.slice (some ⟨g5, 0, none⟩) t cap5) _ (by rfl) hrow9 _ _ (rV S b) (by rfl) (cell_new1 _ _ _) rfl hlen hdb9 ?_
                    intro v6 w6 ho6 hg6
                    obtain ⟨c6n, f6n, ⟨g6, cap6, rfl⟩, hko, hfin⟩ := happ v6 w6 ho6 hg6
                    refine hK _ _ ?_
                    clear hK K
                    refine wpAny_ready (rs := [10]) (by kernel_rfl) (by simp) ?_
                    refine AllReady.cons rfl (fun K hK => ?_) ?_
                    · go_simp
                      refine hK _ _ ?_
                      clear hK K
                      refine wpAny_done (by kernel_rfl) ?_ _
                      exact HEND.out _ hko hfin
                    exact AllReady.nil
                  exact AllReady.nil
                exact AllReady.nil
              exact AllReady.nil
            exact AllReady.nil
          refine AllReady.cons rfl (fun K hK => ?_) ?_
          · go_simp
            refine hK _ _ ?_
            clear hK K
            refine wpAny_take (i := 4) (v := .int .i64 (t : Int)) rfl (by kernel_rfl) (by kernel_rfl) (by kernel_rfl) (fun _ _ _ h => h) (Or.inl ⟨by rfl, fun w' => by go_simp⟩) ?_
            refine wpAny_take (i := 6) (v := .bool la) rfl (by kernel_rfl) (by kernel_rfl) (by kernel_rfl) (fun _ _ _ h => h) (Or.inl ⟨by rfl, fun w' => by go_simp⟩) ?_
            refine wpAny_ready (rs := [1]) (by kernel_rfl) (by simp) ?_
            refine AllReady.cons rfl (fun K hK => ?_) ?_
            · go_simp
              refine hK _ _ ?_
              clear hK K
              refine wpAny_ready (rs := [7]) (by kernel_rfl) (by simp) ?_
              refine AllReady.cons rfl (fun K hK => ?_) ?_
              · go_simp
                refine HMV.out.mono ?_
                rintro e w9 ⟨b, rfl, hb, hm, hb9⟩
                rw [HSS.out] at hm ⊢
                obtain ⟨c9, qa, hrow9, hdb9, happ⟩ := HPK.out b w9 (Nat.le_trans hbz hb) hm (below_undrew hb9)
                clear hb9 hm hb
                go_simp
                refine hK _ _ ?_
                clear hK K
                refine wpAny_ready (rs := [8]) (by kernel_rfl) (by simp) ?_
                refine AllReady.cons rfl (fun K hK => ?_) ?_
                · go_simp
                  refine hK _ _ ?_
                  clear hK K
                  refine wpAny_ready (rs := [9]) (by kernel_rfl) (by simp) ?_
                  refine AllReady.cons rfl (fun K hK => ?_) ?_
                  · refine step_app1 Try.underlying78 infoMoveSS rfl (by decide) (by rfl) _ _ (by rfl) (w2.heap.size + 1) (.slice (some ⟨g5, 0, none⟩) t cap5) _ (by rfl) hrow9 _ _ (rV S b) (by rfl) (cell_new1 _ _ _) rfl hlen hdb9 ?_
                    intro v6 w6 ho6 hg6
                    obtain ⟨c6n, f6n, ⟨g6, cap6, rfl⟩, hko, hfin⟩ := happ v6 w6 ho6 hg6
                    refine hK _ _ ?_
                    clear hK K
                    refine wpAny_ready (rs := [10]) (by kernel_rfl) (by simp) ?_
                    refine AllReady.cons rfl (fun K hK => ?_) ?_
                    · go_simp
                      refine hK _ _ ?_
                      clear hK K
                      refine wpAny_done (by kernel_rfl) ?_ _
                      exact HEND.out _ hko hfin
                    exact AllReady.nil
                  exact AllReady.nil
                exact AllReady.nil
              exact AllReady.nil
            exact AllReady.nil
          exact AllReady.nil
        exact AllReady.nil
      refine AllReady.cons rfl (fun K hK => ?_) ?_
      · go_simp
        refine hK _ _ ?_
        clear hK K
        refine wpAny_ready (rs := [0, 3, 5]) (by kernel_rfl) (by simp) ?_
        refine AllReady.cons rfl (fun K hK => ?_) ?_
        · go_simp
          refine hK _ _ ?_
          clear hK K
          refine wpAny_ready (rs := [3, 5]) (by kernel_rfl) (by simp) ?_
          refine AllReady.cons rfl (fun K hK => ?_) ?_
          · go_simp
            refine hK _ _ ?_
            clear hK K
            refine wpAny_take (i := 4) (v := .int .i64 (t : Int)) rfl (by kernel_rfl) (by kernel_rfl) (by kernel_rfl) (fun _ _ _ h => h) (Or.inl ⟨by rfl, fun w' => by go_simp⟩) ?_
            refine wpAny_ready (rs := [5]) (by kernel_rfl) (by simp) ?_
            refine AllReady.cons rfl (fun K hK => ?_) ?_
            · go_simp
              refine hK _ _ ?_
              clear hK K
              refine wpAny_take (i := 6) (v := .bool la) rfl (by kernel_rfl) (by kernel_rfl) (by kernel_rfl) (fun _ _ _ h => h) (Or.inl ⟨by rfl, fun w' => by go_simp⟩) ?_
              refine wpAny_ready (rs := [7]) (by kernel_rfl) (by simp) ?_
              refine AllReady.cons rfl (fun K hK => ?_) ?_
              · go_simp
                refine HMV.out.mono ?_
                rintro e w9 ⟨b, rfl, hb, hm, hb9⟩
                rw [HSS.out] at hm ⊢
                obtain ⟨c9, qa, hrow9, hdb9, happ⟩ := HPK.out b w9 (Nat.le_trans hbz hb) hm (below_undrew hb9)
                clear hb9 hm hb
                go_simp
                refine hK _ _ ?_
                clear hK K
                refine wpAny_ready (rs := [8]) (by kernel_rfl) (by simp) ?_
                refine AllReady.cons rfl (fun K hK => ?_) ?_
                · go_simp
                  refine hK _ _ ?_
                  clear hK K
                  refine wpAny_ready (rs := [9]) (by kernel_rfl) (by simp) ?_
                  refine AllReady.cons rfl (fun K hK => ?_) ?_
                  · refine step_app1 Try.underlying78 infoMoveSS rfl (by decide) (by rfl) _ _ (by rfl) (w2.heap.size + 1) (.slice (some ⟨g5, 0, none⟩) t cap5) _ (by rfl) hrow9 _ _ (rV S b) (by rfl) (cell_new1 _ _ _) rfl hlen hdb9 ?_
                    intro v6 w6 ho6 hg6
                    obtain ⟨c6n, f6n, ⟨g6, cap6, rfl⟩, hko, hfin⟩ := happ v6 w6 ho6 hg6
                    refine hK _ _ ?_
                    clear hK K
                    refine wpAny_ready (rs := [10]) (by kernel_rfl) (by simp) ?_
                    refine AllReady.cons rfl (fun K hK => ?_) ?_
                    · go_simp
                      refine hK _ _ ?_
                      clear hK K
                      refine wpAny_done (by kernel_rfl) ?_ _
                      exact HEND.out _ hko hfin
                    exact AllReady.nil
                  exact AllReady.nil
                exact AllReady.nil
              exact AllReady.nil
            exact AllReady.nil
          refine AllReady.cons rfl (fun K hK => ?_) ?_
          · go_simp
            refine hK _ _ ?_
            clear hK K
            refine wpAny_ready (rs := [3]) (by kernel_rfl) (by simp) ?_
            refine AllReady.cons rfl (fun K hK => ?_) ?_
            · go_simp
              refine hK _ _ ?_
              clear hK K
              refine wpAny_take (i := 4) (v := .int .i64 (t : Int)) rfl (by kernel_rfl) (by kernel_rfl) (by kernel_rfl) (fun _ _ _ h => h) (Or.inl ⟨by rfl, fun w' => by go_simp⟩) ?_
              refine wpAny_take (i := 6) (v := .bool la) rfl (by kernel_rfl) (by kernel_rfl) (by kernel_rfl) (fun _ _ _ h => h) (Or.inl ⟨by rfl, fun w' => by go_simp⟩) ?_
              refine wpAny_ready (rs := [7]) (by kernel_rfl) (by simp) ?_
              refine AllReady.cons rfl (fun K hK => ?_) ?_
              · go_simp
                refine HMV.out.mono ?_
                rintro e w9 ⟨b, rfl, hb, hm, hb9⟩
                rw [HSS.out] at hm ⊢
                obtain ⟨c9, qa, hrow9, hdb9, happ⟩ := HPK.out b w9 (Nat.le_trans hbz hb) hm (below_undrew hb9)
                clear hb9 hm hb
                go_simp
                refine hK _ _ ?_
                clear hK K
                refine wpAny_ready (rs := [8]) (by kernel_rfl) (by simp) ?_
                refine AllReady.cons rfl (fun K hK => ?_) ?_
                · go_simp
                  refine hK _ _ ?_
                  clear hK K
                  refine wpAny_ready (rs := [9]) (by kernel_rfl) (by simp) ?_
                  refine AllReady.cons rfl (fun K hK => ?_) ?_
                  · refine step_app1 Try.underlying78 infoMoveSS rfl (by decide) (by rfl) _ _ (by rfl) (w2.heap.size + 1) (.slice (some ⟨g5, 0, none⟩) t cap5) _ (by rfl) hrow9 _ _ (rV S b) (by rfl) (cell_new1 _ _ _) rfl hlen hdb9 ?_
                    intro v6 w6 ho6 hg6
                    obtain ⟨c6n, f6n, ⟨g6, cap6, rfl⟩, hko, hfin⟩ := happ v6 w6 ho6 hg6
                    refine hK _ _ ?_
                    clear hK K
                    refine wpAny_ready (rs := [10]) (by kernel_rfl) (by simp) ?_
                    refine AllReady.cons rfl (fun K hK => ?_) ?_
                    · go_simp
                      refine hK _ _ ?_
                      clear hK K
                      refine wpAny_done (by kernel_rfl) ?_ _
                      exact HEND.out _ hko hfin
                    exact AllReady.nil
                  exact AllReady.nil
                exact AllReady.nil
              exact AllReady.nil
            exact AllReady.nil
          exact AllReady.nil
        refine AllReady.cons rfl (fun K hK => ?_) ?_
        · go_simp
          refine hK _ _ ?_
          clear hK K
          refine wpAny_take (i := 4) (v := .int .i64 (t : Int)) rfl (by kernel_rfl) (by kernel_rfl) (by kernel_rfl) (fun _ _ _ h => h) (Or.inl ⟨by rfl, fun w' => by go_simp⟩) ?_
          refine wpAny_ready (rs := [0, 5]) (by kernel_rfl) (by simp) ?_
          refine AllReady.cons rfl (fun K hK => ?_) ?_
          · go_simp
            refine hK _ _ ?_
            clear hK K
            refine wpAny_ready (rs := [5]) (by kernel_rfl) (by simp) ?_
            refine AllReady.cons rfl (fun K hK => ?_) ?_
            · go_simp
              refine hK _ _ ?_
              clear hK K
              refine wpAny_take (i := 6) (v := .bool la) rfl (by kernel_rfl) (by kernel_rfl) (by kernel_rfl) (fun _ _ _ h => h) (Or.inl ⟨by rfl, fun w' => by go_simp⟩) ?_
              refine wpAny_ready (rs := [7]) (by kernel_rfl) (by simp) ?_
              refine AllReady.cons rfl (fun K hK => ?_) ?_
              · go_simp
                refine HMV.out.mono ?_
                rintro e w9 ⟨b, rfl, hb, hm, hb9⟩
                rw [HSS.out] at hm ⊢
                obtain ⟨c9, qa, hrow9, hdb9, happ⟩ := HPK.out b w9 (Nat.le_trans hbz hb) hm (below_undrew hb9)
                clear hb9 hm hb
                go_simp
                refine hK _ _ ?_
                clear hK K
                refine wpAny_ready (rs := [8]) (by kernel_rfl) (by simp) ?_
                refine AllReady.cons rfl (fun K hK => ?_) ?_
                · go_simp
                  refine hK _ _ ?_
                  clear hK K
                  refine wpAny_ready (rs := [9]) (by kernel_rfl) (by simp) ?_
                  refine AllReady.cons rfl (fun K hK => ?_) ?_
                  · refine step_app1 Try.underlying78 infoMoveSS rfl (by decide) (by rfl) _ _ (by rfl) (w2.heap.size + 1) (.slice (some ⟨g5, 0, none⟩) t cap5) _ (by rfl) hrow9 _ _ (rV S b) (by rfl) (cell_new1 _ _ _) rfl hlen hdb9 ?_
                    intro v6 w6 ho6 hg6
                    obtain ⟨c6n, f6n, ⟨g6, cap6, rfl⟩, hko, hfin⟩ := happ v6 w6 ho6 hg6
                    refine hK _ _ ?_
                    clear hK K
                    refine wpAny_ready (rs := [10]) (by kernel_rfl) (by simp) ?_
                    refine AllReady.cons rfl (fun K hK => ?_) ?_
                    · go_simp
                      refine hK _ _ ?_
                      clear hK K
                      refine wpAny_done (by kernel_rfl) ?_ _
                      exact HEND.out _ hko hfin
                    exact AllReady.nil
                  exact AllReady.nil
                exact AllReady.nil
              exact AllReady.nil
            exact AllReady.nil
          refine AllReady.cons rfl (fun K hK => ?_) ?_
          · go_simp
            refine hK _ _ ?_
            clear hK K
            refine wpAny_take (i := 6) (v := .bool la) rfl (by kernel_rfl) (by kernel_rfl) (by kernel_rfl) (fun _ _ _ h => h) (Or.inl ⟨by rfl, fun w' => by go_simp⟩) ?_
            refine wpAny_ready (rs := [0, 7]) (by kernel_rfl) (by simp) ?_
            refine AllReady.cons rfl (fun K hK => ?_) ?_
            · go_simp
              refine hK _ _ ?_
              clear hK K
              refine wpAny_ready (rs := [7]) (by kernel_rfl) (by simp) ?_
              refine AllReady.cons rfl (fun K hK => ?_) ?_
              · go_simp
                refine HMV.out.mono ?_
                rintro e w9 ⟨b, rfl, hb, hm, hb9⟩
                rw [HSS.out] at hm ⊢
                obtain ⟨c9, qa, hrow9, hdb9, happ⟩ := HPK.out b w9 (Nat.le_trans hbz hb) hm (below_undrew hb9)
                clear hb9 hm hb
                go_simp
                refine hK _ _ ?_
                clear hK K
                refine wpAny_ready (rs := [8]) (by kernel_rfl) (by simp) ?_
                refine AllReady.cons rfl (fun K hK => ?_) ?_
                · go_simp
                  refine hK _ _ ?_
                  clear hK K
                  refine wpAny_ready (rs := [9]) (by kernel_rfl) (by simp) ?_
                  refine AllReady.cons rfl (fun K hK => ?_) ?_
                  · refine step_app1 Try.underlying78 infoMoveSS rfl (by decide) (by rfl) _ _ (by rfl) (w2.heap.size + 1) (.slice (some ⟨g5, 0, none⟩) t cap5) _ (by rfl) hrow9 _ _ (rV S b) (by rfl) (cell_new1 _ _ _) rfl hlen hdb9 ?_
                    intro v6 w6 ho6 hg6
                    obtain ⟨c6n, f6n, ⟨g6, cap6, rfl⟩, hko, hfin⟩ := happ v6 w6 ho6 hg6
                    refine hK _ _ ?_
                    clear hK K
                    refine wpAny_ready (rs := [10]) (by kernel_rfl) (by simp) ?_
                    refine AllReady.cons rfl (fun K hK => ?_) ?_
                    · go_simp
                      refine hK _ _ ?_
                      clear hK K
                      refine wpAny_done (by kernel_rfl) ?_ _
                      exact HEND.out _ hko hfin
                    exact AllReady.nil
                  exact AllReady.nil
                exact AllReady.nil
              exact AllReady.nil
            refine AllReady.cons rfl (fun K hK => ?_) ?_
            · go_simp
              refine HMV.out.mono ?_
              rintro e w9 ⟨b, rfl, hb, hm, hb9⟩
              rw [HSS.out] at hm ⊢
              obtain ⟨c9, qa, hrow9, hdb9, happ⟩ := HPK.out b w9 (Nat.le_trans hbz hb) hm (below_undrew hb9)
              clear hb9 hm hb
              go_simp
              refine hK _ _ ?_
              clear hK K
              refine wpAny_ready (rs := [0, 8]) (by kernel_rfl) (by simp) ?_
              refine AllReady.cons rfl (fun K hK => ?_) ?_
              · go_simp
                refine hK _ _ ?_
                clear hK K
                refine wpAny_ready (rs := [8]) (by kernel_rfl) (by simp) ?_
                refine AllReady.cons rfl (fun K hK => ?_) ?_
                · go_simp
                  refine hK _ _ ?_
                  clear hK K
                  refine wpAny_ready (rs := [9]) (by kernel_rfl) (by simp) ?_
                  refine AllReady.cons rfl (fun K hK => ?_) ?_
                  · refine step_app1 Try.underlying78 infoMoveSS rfl (by decide) (by rfl) _ _ (by rfl) (w2.heap.size + 1) (.slice (some ⟨g5, 0, none⟩) t cap5) _ (by rfl) hrow9 _ _ (rV S b) (by rfl) (cell_new1 _ _ _) rfl hlen hdb9 ?_
                    intro v6 w6 ho6 hg6
                    obtain ⟨c6n, f6n, ⟨g6, cap6, rfl⟩, hko, hfin⟩ := happ v6 w6 ho6 hg6
                    refine hK _ _ ?_
                    clear hK K
                    refine wpAny_ready (rs := [10]) (by kernel_rfl) (by simp) ?_
                    refine AllReady.cons rfl (fun K hK => ?_) ?_
                    · go_simp
                      refine hK _ _ ?_
                      clear hK K
                      refine wpAny_done (by kernel_rfl) ?_ _
                      exact HEND.out _ hko hfin
                    exact AllReady.nil
                  exact AllReady.nil
                exact AllReady.nil
              refine AllReady.cons rfl (fun K hK => ?_) ?_
              · go_simp
                refine hK _ _ ?_
                clear hK K
                refine wpAny_ready (rs := [0]) (by kernel_rfl) (by simp) ?_
                refine AllReady.cons rfl (fun K hK => ?_) ?_
                · go_simp
                  refine hK _ _ ?_
                  clear hK K
                  refine wpAny_ready (rs := [9]) (by kernel_rfl) (by simp) ?_
                  refine AllReady.cons rfl (fun K hK => ?_) ?_
                  · refine step_app1 Try.underlying78 infoMoveSS rfl (by decide) (by rfl) _ _ (by rfl) (w2.heap.size + 1) (.slice (some ⟨g5, 0, none⟩) t cap5) _ (by rfl) hrow9 _ _ (rV S b) (by rfl) (cell_new1 _ _ _) rfl hlen hdb9 ?_
                    intro v6 w6 ho6 hg6
                    obtain ⟨c6n, f6n, ⟨g6, cap6, rfl⟩, hko, hfin⟩ := happ v6 w6 ho6 hg6
                    refine hK _ _ ?_
                    clear hK K
                    refine wpAny_ready (rs := [10]) (by kernel_rfl) (by simp) ?_
                    refine AllReady.cons rfl (fun K hK => ?_) ?_
                    · go_simp
                      refine hK _ _ ?_
                      clear hK K
                      refine wpAny_done (by kernel_rfl) ?_ _
                      exact HEND.out _ hko hfin
                    exact AllReady.nil
                  exact AllReady.nil
                exact AllReady.nil
              exact AllReady.nil
            exact AllReady.nil
          exact AllReady.nil
        refine AllReady.cons rfl (fun K hK => ?_) ?_
        · go_simp
          refine hK _ _ ?_
          clear hK K
          refine wpAny_ready (rs := [0, 3]) (by kernel_rfl) (by simp) ?_
          refine AllReady.cons rfl (fun K hK => ?_) ?_
          · go_simp
            refine hK _ _ ?_
            clear hK K
            refine wpAny_ready (rs := [3]) (by kernel_rfl) (by simp) ?_
            refine AllReady.cons rfl (fun K hK => ?_) ?_
            · go_simp
              refine hK _ _ ?_
              clear hK K
              refine wpAny_take (i := 4) (v := .int .i64 (t : Int)) rfl (by kernel_rfl) (by kernel_rfl) (by kernel_rfl) (fun _ _ _ h => h) (Or.inl ⟨by rfl, fun w' => by go_simp⟩) ?_
              refine wpAny_take (i := 6) (v := .bool la) rfl (by kernel_rfl) (by kernel_rfl) (by kernel_rfl) (fun _ _ _ h => h) (Or.inl ⟨by rfl, fun w' => by go_simp⟩) ?_
              refine wpAny_ready (rs := [7]) (by kernel_rfl) (by simp) ?_
              refine AllReady.cons rfl (fun K hK => ?_) ?_
              · go_simp
                refine HMV.out.mono ?_
                rintro e w9 ⟨b, rfl, hb, hm, hb9⟩
                rw [HSS.out] at hm ⊢
                obtain ⟨c9, qa, hrow9, hdb9, happ⟩ := HPK.out b w9 (Nat.le_trans hbz hb) hm (below_undrew hb9)
                clear hb9 hm hb
                go_simp
                refine hK _ _ ?_
                clear hK K
                refine wpAny_ready (rs := [8]) (by kernel_rfl) (by simp) ?_
                refine AllReady.cons rfl (fun K hK => ?_) ?_
                · go_simp
                  refine hK _ _ ?_
                  clear hK K
                  refine wpAny_ready (rs := [9]) (by kernel_rfl) (by simp) ?_
                  refine AllReady.cons rfl (fun K hK => ?_) ?_
                  · refine step_app1 Try.underlying78 infoMoveSS rfl (by decide) (by rfl) _ _ (by rfl) (w2.heap.size + 1) (.slice (some ⟨g5, 0, none⟩) t cap5) _ (by rfl) hrow9 _ _ (rV S b) (by rfl) (cell_new1 _ _ _) rfl hlen hdb9 ?_
                    intro v6 w6 ho6 hg6
                    obtain ⟨c6n, f6n, ⟨g6, cap6, rfl⟩, hko, hfin⟩ := happ v6 w6 ho6 hg6
                    refine hK _ _ ?_
                    clear hK K
                    refine wpAny_ready (rs := [10]) (by kernel_rfl) (by simp) ?_
                    refine AllReady.cons rfl (fun K hK => ?_) ?_
                    · go_simp
                      refine hK _ _ ?_
                      clear hK K
                      refine wpAny_done (by kernel_rfl) ?_ _
                      exact HEND.out _ hko hfin
                    exact AllReady.nil
                  exact AllReady.nil
                exact AllReady.nil
              exact AllReady.nil
            exact AllReady.nil
          refine AllReady.cons rfl (fun K hK => ?_) ?_
          · go_simp
            refine hK _ _ ?_
            clear hK K
            refine wpAny_take (i := 4) (v := .int .i64 (t : Int)) rfl (by kernel_rfl) (by kernel_rfl) (by kernel_rfl) (fun _ _ _ h => h) (Or.inl ⟨by rfl, fun w' => by go_simp⟩) ?_
            refine wpAny_take (i := 6) (v := .bool la) rfl (by kernel_rfl) (by kernel_rfl) (by kernel_rfl) (fun _ _ _ h => h) (Or.inl ⟨by rfl, fun w' => by go_simp⟩) ?_
            refine wpAny_ready (rs := [0, 7]) (by kernel_rfl) (by simp) ?_
            refine AllReady.cons rfl (fun K hK => ?_) ?_
            · go_simp
              refine hK _ _ ?_
              clear hK K
              refine wpAny_ready (rs := [7]) (by kernel_rfl) (by simp) ?_
              refine AllReady.cons rfl (fun K hK => ?_) ?_
              · go_simp
                refine HMV.out.mono ?_
                rintro e w9 ⟨b, rfl, hb, hm, hb9⟩
                rw [HSS.out] at hm ⊢
                obtain ⟨c9, qa, hrow9, hdb9, happ⟩ := HPK.out b w9 (Nat.le_trans hbz hb) hm (below_undrew hb9)
                clear hb9 hm hb
                go_simp
                refine hK _ _ ?_
                clear hK K
                refine wpAny_ready (rs := [8]) (by kernel_rfl) (by simp) ?_
                refine AllReady.cons rfl (fun K hK => ?_) ?_
                · go_simp
                  refine hK _ _ ?_
                  clear hK K
                  refine wpAny_ready (rs := [9]) (by kernel_rfl) (by simp) ?_
                  refine AllReady.cons rfl (fun K hK => ?_) ?_
                  · refine step_app1 Try.underlying78 infoMoveSS rfl (by decide) (by rfl) _ _ (by rfl) (w2.heap.size + 1) (.slice (some ⟨g5, 0, none⟩) t cap5) _ (by rfl) hrow9 _ _ (rV S b) (by rfl) (cell_new1 _ _ _) rfl hlen hdb9 ?_
                    intro v6 w6 ho6 hg6
                    obtain ⟨c6n, f6n, ⟨g6, cap6, rfl⟩, hko, hfin⟩ := happ v6 w6 ho6 hg6
                    refine hK _ _ ?_
                    clear hK K
                    refine wpAny_ready (rs := [10]) (by kernel_rfl) (by simp) ?_
                    refine AllReady.cons rfl (fun K hK => ?_) ?_
                    · go_simp
                      refine hK _ _ ?_
                      clear hK K
                      refine wpAny_done (by kernel_rfl) ?_ _
                      exact HEND.out _ hko hfin
                    exact AllReady.nil
                  exact AllReady.nil
                exact AllReady.nil
              exact AllReady.nil
            refine AllReady.cons rfl (fun K hK => ?_) ?_
            · go_simp
              refine HMV.out.mono ?_
              rintro e w9 ⟨b, rfl, hb, hm, hb9⟩
              rw [HSS.out] at hm ⊢
              obtain ⟨c9, qa, hrow9, hdb9, happ⟩ := HPK.out b w9 (Nat.le_trans hbz hb) hm (below_undrew hb9)
              clear hb9 hm hb
              go_simp
              refine hK _ _ ?_
              clear hK K
              refine wpAny_ready (rs := [0, 8]) (by kernel_rfl) (by simp) ?_
              refine AllReady.cons rfl (fun K hK => ?_) ?_
              · go_simp
                refine hK _ _ ?_
                clear hK K
                refine wpAny_ready (rs := [8]) (by kernel_rfl) (by simp) ?_
                refine AllReady.cons rfl (fun K hK => ?_) ?_
                · go_simp
                  refine hK _ _ ?_
                  clear hK K
                  refine wpAny_ready (rs := [9]) (by kernel_rfl) (by simp) ?_
                  refine AllReady.cons rfl (fun K hK => ?_) ?_
                  · refine step_app1 Try.underlying78 infoMoveSS rfl (by decide) (by rfl) _ _ (by rfl) (w2.heap.size + 1) (.slice (some ⟨g5, 0, none⟩) t cap5) _ (by rfl) hrow9 _ _ (rV S b) (by rfl) (cell_new1 _ _ _) rfl hlen hdb9 ?_
                    intro v6 w6 ho6 hg6
                    obtain ⟨c6n, f6n, ⟨g6, cap6, rfl⟩, hko, hfin⟩ := happ v6 w6 ho6 hg6
                    refine hK _ _ ?_
                    clear hK K
                    refine wpAny_ready (rs := [10]) (by kernel_rfl) (by simp) ?_
                    refine AllReady.cons rfl (fun K hK => ?_) ?_
                    · go_simp
                      refine hK _ _ ?_
                      clear hK K
                      refine wpAny_done (by kernel_rfl) ?_ _
                      exact HEND.out _ hko hfin
                    exact AllReady.nil
                  exact AllReady.nil
                exact AllReady.nil
              refine AllReady.cons rfl (fun K hK => ?_) ?_
              · go_simp
                refine hK _ _ ?_
                clear hK K
                refine wpAny_ready (rs := [0]) (by kernel_rfl) (by simp) ?_
                refine AllReady.cons rfl (fun K hK => ?_) ?_
                · go_simp
                  refine hK _ _ ?_
                  clear hK K
                  refine wpAny_ready (rs := [9]) (by kernel_rfl) (by simp) ?_
                  refine AllReady.cons rfl (fun K hK => ?_) ?_
                  · refine step_app1 Try.underlying78 infoMoveSS rfl (by decide) (by rfl) _ _ (by rfl) (w2.heap.size + 1) (.slice (some ⟨g5, 0, none⟩) t cap5) _ (by rfl) hrow9 _ _ (rV S b) (by rfl) (cell_new1 _ _ _) rfl hlen hdb9 ?_
                    intro v6 w6 ho6 hg6
                    obtain ⟨c6n, f6n, ⟨g6, cap6, rfl⟩, hko, hfin⟩ := happ v6 w6 ho6 hg6
                    refine hK _ _ ?_
                    clear hK K
                    refine wpAny_ready (rs := [10]) (by kernel_rfl) (by simp) ?_
                    refine AllReady.cons rfl (fun K hK => ?_) ?_
                    · go_simp
                      refine hK _ _ ?_
                      clear hK K
                      refine wpAny_done (by kernel_rfl) ?_ _
                      exact HEND.out _ hko hfin
                    exact AllReady.nil
                  exact AllReady.nil
                exact AllReady.nil
              exact AllReady.nil
            exact AllReady.nil
          exact AllReady.nil
        exact AllReady.nil
      refine AllReady.cons rfl (fun K hK => ?_) ?_
      · go_simp
        refine hK _ _ ?_
        clear hK K
        refine wpAny_take (i := 4) (v := .int .i64 (t : Int)) rfl (by kernel_rfl) (by kernel_rfl) (by kernel_rfl) (fun _ _ _ h => h) (Or.inl ⟨by rfl, fun w' => by go_simp⟩) ?_
        refine wpAny_ready (rs := [0, 1, 5]) (by kernel_rfl) (by simp) ?_
        refine AllReady.cons rfl (fun K hK => ?_) ?_
        · go_simp
          refine hK _ _ ?_
          clear hK K
          refine wpAny_ready (rs := [1, 5]) (by kernel_rfl) (by simp) ?_
          refine AllReady.cons rfl (fun K hK => ?_) ?_
          · go_simp
            refine hK _ _ ?_
            clear hK K
            refine wpAny_ready (rs := [5]) (by kernel_rfl) (by simp) ?_
            refine AllReady.cons rfl (fun K hK => ?_) ?_
            · go_simp
              refine hK _ _ ?_
              clear hK K
              refine wpAny_take (i := 6) (v := .bool la) rfl (by kernel_rfl) (by kernel_rfl) (by kernel_rfl) (fun _ _ _ h => h) (Or.inl ⟨by rfl, fun w' => by go_simp⟩) ?_
              refine wpAny_ready (rs := [7]) (by kernel_rfl) (by simp) ?_
              refine AllReady.cons rfl (fun K hK => ?_) ?_
              · go_simp
                refine HMV.out.mono ?_
                rintro e w9 ⟨b, rfl, hb, hm, hb9⟩
                rw [HSS.out] at hm ⊢
                obtain ⟨c9, qa, hrow9, hdb9, happ⟩ := HPK.out b w9 (Nat.le_trans hbz hb) hm (below_undrew hb9)
                clear hb9 hm hb
                go_simp
                refine hK _ _ ?_
                clear hK K
                refine wpAny_ready (rs := [8]) (by kernel_rfl) (by simp) ?_
                refine AllReady.cons rfl (fun K hK => ?_) ?_
                · go_simp
                  refine hK _ _ ?_
                  clear hK K
                  refine wpAny_ready (rs := [9]) (by kernel_rfl) (by simp) ?_
                  refine AllReady.cons rfl (fun K hK => ?_) ?_
                  · refine step_app1 Try.underlying78 infoMoveSS rfl (by decide) (by rfl) _ _ (by rfl) (w2.heap.size + 1) (.slice (some ⟨g5, 0, none⟩) t cap5) _ (by rfl) hrow9 _ _ (rV S b) (by rfl) (cell_new1 _ _ _) rfl hlen hdb9 ?_
                    intro v6 w6 ho6 hg6
                    obtain ⟨c6n, f6n, ⟨g6, cap6, rfl⟩, hko, hfin⟩ := happ v6 w6 ho6 hg6
                    refine hK _ _ ?_
                    clear hK K
                    refine wpAny_ready (rs := [10]) (by kernel_rfl) (by simp) ?_
                    refine AllReady.cons rfl (fun K hK => ?_) ?_
                    · go_simp
                      refine hK _ _ ?_
                      clear hK K
                      refine wpAny_done (by kernel_rfl) ?_ _
                      exact HEND.out _ hko hfin
                    exact AllReady.nil
                  exact AllReady.nil
                exact AllReady.nil
              exact AllReady.nil
            exact AllReady.nil
          refine AllReady.cons rfl (fun K hK => ?_) ?_
          · go_simp
            refine hK _ _ ?_
            clear hK K
            refine wpAny_take (i := 6) (v := .bool la) rfl (by kernel_rfl) (by kernel_rfl) (by kernel_rfl) (fun _ _ _ h => h) (Or.inl ⟨by rfl, fun w' => by go_simp⟩) ?_
            refine wpAny_ready (rs := [1]) (by kernel_rfl) (by simp) ?_
            refine AllReady.cons rfl (fun K hK => ?_) ?_
            · go_simp
              refine hK _ _ ?_
              clear hK K
              refine wpAny_ready (rs := [7]) (by kernel_rfl) (by simp) ?_
              refine AllReady.cons rfl (fun K hK => ?_) ?_
              · go_simp
                refine HMV.out.mono ?_
                rintro e w9 ⟨b, rfl, hb, hm, hb9⟩
                rw [HSS.out] at hm ⊢
                obtain ⟨c9, qa, hrow9, hdb9, happ⟩ := HPK.out b w9 (Nat.le_trans hbz hb) hm (below_undrew hb9)
                clear hb9 hm hb
                go_simp
                refine hK _ _ ?_
                clear hK K
                refine wpAny_ready (rs := [8]) (by kernel_rfl) (by simp) ?_
                refine AllReady.cons rfl (fun K hK => ?_) ?_
                · go_simp
                  refine hK _ _ ?_
                  clear hK K
                  refine wpAny_ready (rs := [9]) (by kernel_rfl) (by simp) ?_
                  refine AllReady.cons rfl (fun K hK => ?_) ?_
                  · refine step_app1 Try.underlying78 infoMoveSS rfl (by decide) (by rfl) _ _ (by rfl) (w2.heap.size + 1) (.slice (some ⟨g5, 0, none⟩) t cap5) _ (by rfl) hrow9 _ _ (rV S b) (by rfl) (cell_new1 _ _ _) rfl hlen hdb9 ?_
                    intro v6 w6 ho6 hg6
                    obtain ⟨c6n, f6n, ⟨g6, cap6, rfl⟩, hko, hfin⟩ := happ v6 w6 ho6 hg6
                    refine hK _ _ ?_
                    clear hK K
                    refine wpAny_ready (rs := [10]) (by kernel_rfl) (by simp) ?_
                    refine AllReady.cons rfl (fun K hK => ?_) ?_
                    · go_simp
                      refine hK _ _ ?_
                      clear hK K
                      refine wpAny_done (by kernel_rfl) ?_ _
                      exact HEND.out _ hko hfin
                    exact AllReady.nil
                  exact AllReady.nil
                exact AllReady.nil
              exact AllReady.nil
            exact AllReady.nil
          exact AllReady.nil
        refine AllReady.cons rfl (fun K hK => ?_) ?_
        · go_simp
          refine hK _ _ ?_
          clear hK K
          refine wpAny_ready (rs := [0, 5]) (by kernel_rfl) (by simp) ?_
          refine AllReady.cons rfl (fun K hK => ?_) ?_
          · go_simp
            refine hK _ _ ?_
            clear hK K
            refine wpAny_ready (rs := [5]) (by kernel_rfl) (by simp) ?_
            refine AllReady.cons rfl (fun K hK => ?_) ?_
            · go_simp
              refine hK _ _ ?_
              clear hK K
              refine wpAny_take (i := 6) (v := .bool la) rfl (by kernel_rfl) (by kernel_rfl) (by kernel_rfl) (fun _ _ _ h => h) (Or.inl ⟨by rfl, fun w' => by go_simp⟩) ?_
              refine wpAny_ready (rs := [7]) (by kernel_rfl) (by simp) ?_
              refine AllReady.cons rfl (fun K hK => ?_) ?_
              · go_simp
                refine HMV.out.mono ?_
                rintro e w9 ⟨b, rfl, hb, hm, hb9⟩
                rw [HSS.out] at hm ⊢
                obtain ⟨c9, qa, hrow9, hdb9, happ⟩ := HPK.out b w9 (Nat.le_trans hbz hb) hm (below_undrew hb9)
                clear hb9 hm hb
                go_simp
                refine hK _ _ ?_
                clear hK K
                refine wpAny_ready (rs := [8]) (by kernel_rfl) (by simp) ?_
                refine AllReady.cons rfl (fun K hK => ?_) ?_
                · go_simp
                  refine hK _ _ ?_
                  clear hK K
                  refine wpAny_ready (rs := [9]) (by kernel_rfl) (by simp) ?_
                  refine AllReady.cons rfl (fun K hK => ?_) ?_
                  · refine step_app1 Try.underlying78 infoMoveSS rfl (by decide) (by rfl) _ _ (by rfl) (w2.heap.size + 1) (.slice (some ⟨g5, 0, none⟩) t cap5) _ (by rfl) hrow9 _ _ (rV S b) (by rfl) (cell_new1 _ _ _) rfl hlen hdb9 ?_
                    intro v6 w6 ho6 hg6
                    obtain ⟨c6n, f6n, ⟨g6, cap6, rfl⟩, hko, hfin⟩ := happ v6 w6 ho6 hg6
                    refine hK _ _ ?_
                    clear hK K
                    refine wpAny_ready (rs := [10]) (by kernel_rfl) (by simp) ?_
                    refine AllReady.cons rfl (fun K hK => ?_) ?_
                    · go_simp
                      refine hK _ _ ?_
                      clear hK K
                      refine wpAny_done (by kernel_rfl) ?_ _
                      exact HEND.out _ hko hfin
                    exact AllReady.nil
                  exact AllReady.nil
                exact AllReady.nil
              exact AllReady.nil
            exact AllReady.nil
          refine AllReady.cons rfl (fun K hK => ?_) ?_
          · go_simp
            refine hK _ _ ?_
            clear hK K
            refine wpAny_take (i := 6) (v := .bool la) rfl (by kernel_rfl) (by kernel_rfl) (by kernel_rfl) (fun _ _ _ h => h) (Or.inl ⟨by rfl, fun w' => by go_simp⟩) ?_
            refine wpAny_ready (rs := [0, 7]) (by kernel_rfl) (by simp) ?_
            refine AllReady.cons rfl (fun K hK => ?_) ?_
            · go_simp
              refine hK _ _ ?_
              clear hK K
              refine wpAny_ready (rs := [7]) (by kernel_rfl) (by simp) ?_
              refine AllReady.cons rfl (fun K hK => ?_) ?_
              · go_simp
                refine HMV.out.mono ?_
                rintro e w9 ⟨b, rfl, hb, hm, hb9⟩
                rw [HSS.out] at hm ⊢
                obtain ⟨c9, qa, hrow9, hdb9, happ⟩ := HPK.out b w9 (Nat.le_trans hbz hb) hm (below_undrew hb9)
                clear hb9 hm hb
                go_simp
                refine hK _ _ ?_
                clear hK K
                refine wpAny_ready (rs := [8]) (by kernel_rfl) (by simp) ?_
                refine AllReady.cons rfl (fun K hK => ?_) ?_
                · go_simp
                  refine hK _ _ ?_
                  clear hK K
                  refine wpAny_ready (rs := [9]) (by kernel_rfl) (by simp) ?_
                  refine AllReady.cons rfl (fun K hK => ?_) ?_
                  · refine step_app1 Try.underlying78 infoMoveSS rfl (by decide) (by rfl) _ _ (by rfl) (w2.heap.size + 1) (.slice (some ⟨g5, 0, none⟩) t cap5) _ (by rfl) hrow9 _ _ (rV S b) (by rfl) (cell_new1 _ _ _) rfl hlen hdb9 ?_
                    intro v6 w6 ho6 hg6
                    obtain ⟨c6n, f6n, ⟨g6, cap6, rfl⟩, hko, hfin⟩ := happ v6 w6 ho6 hg6
                    refine hK _ _ ?_
                    clear hK K
                    refine wpAny_ready (rs := [10]) (by kernel_rfl) (by simp) ?_
                    refine AllReady.cons rfl (fun K hK => ?_) ?_
                    · go_simp
                      refine hK _ _ ?_
                      clear hK K
                      refine wpAny_done (by kernel_rfl) ?_ _
                      exact HEND.out _ hko hfin
                    exact AllReady.nil
                  exact AllReady.nil
                exact AllReady.nil
              exact AllReady.nil
            refine AllReady.cons rfl (fun K hK => ?_) ?_
            · go_simp
              refine HMV.out.mono ?_
              rintro e w9 ⟨b, rfl, hb, hm, hb9⟩
              rw [HSS.out] at hm ⊢
              obtain ⟨c9, qa, hrow9, hdb9, happ⟩ := HPK.out b w9 (Nat.le_trans hbz hb) hm (below_undrew hb9)
              clear hb9 hm hb
              go_simp
              refine hK _ _ ?_
              clear hK K
              refine wpAny_ready (rs := [0, 8]) (by kernel_rfl) (by simp) ?_
              refine AllReady.cons rfl (fun K hK => ?_) ?_
              · go_simp
                refine hK _ _ ?_
                clear hK K
                refine wpAny_ready (rs := [8]) (by kernel_rfl) (by simp) ?_
                refine AllReady.cons rfl (fun K hK => ?_) ?_
                · go_simp
                  refine hK _ _ ?_
                  clear hK K
                  refine wpAny_ready (rs := [9]) (by kernel_rfl) (by simp) ?_
                  refine AllReady.cons rfl (fun K hK => ?_) ?_
                  · refine step_app1 Try.underlying78 infoMoveSS rfl (by decide) (by rfl) _ _ (by rfl) (w2.heap.size + 1) (.slice (some ⟨g5, 0, none⟩) t cap5) _ (by rfl) hrow9 _ _ (rV S b) (by rfl) (cell_new1 _ _ _) rfl hlen hdb9 ?_
                    intro v6 w6 ho6 hg6
                    obtain ⟨c6n, f6n, ⟨g6, cap6, rfl⟩, hko, hfin⟩ := happ v6 w6 ho6 hg6
                    refine hK _ _ ?_
                    clear hK K
                    refine wpAny_ready (rs := [10]) (by kernel_rfl) (by simp) ?_
                    refine AllReady.cons rfl (fun K hK => ?_) ?_
                    · go_simp
                      refine hK _ _ ?_
                      clear hK K
                      refine wpAny_done (by kernel_rfl) ?_ _
                      exact HEND.out _ hko hfin
                    exact AllReady.nil
                  exact AllReady.nil
                exact AllReady.nil
              refine AllReady.cons rfl (fun K hK => ?_) ?_
              · go_simp
                refine hK _ _ ?_
                clear hK K
                refine wpAny_ready (rs := [0]) (by kernel_rfl) (by simp) ?_
                refine AllReady.cons rfl (fun K hK => ?_) ?_
                · go_simp
                  refine hK _ _ ?_
                  clear hK K
                  refine wpAny_ready (rs := [9]) (by kernel_rfl) (by simp) ?_
                  refine AllReady.cons rfl (fun K hK => ?_) ?_
                  · refine step_app1 Try.underlying78 infoMoveSS rfl (by decide) (by rfl) _ _ (by rfl) (w2.heap.size + 1) (.slice (some ⟨g5, 0, none⟩) t cap5) _ (by rfl) hrow9 _ _ (rV S b) (by rfl) (cell_new1 _ _ _) rfl hlen hdb9 ?_
                    intro v6 w6 ho6 hg6
                    obtain ⟨c6n, f6n, ⟨g6, cap6, rfl⟩, hko, hfin⟩ := happ v6 w6 ho6 hg6
                    refine hK _ _ ?_
                    clear hK K
                    refine wpAny_ready (rs := [10]) (by kernel_rfl) (by simp) ?_
                    refine AllReady.cons rfl (fun K hK => ?_) ?_
                    · go_simp
                      refine hK _ _ ?_
                      clear hK K
                      refine wpAny_done (by kernel_rfl) ?_ _
                      exact HEND.out _ hko hfin
                    exact AllReady.nil
                  exact AllReady.nil
                exact AllReady.nil
              exact AllReady.nil
            exact AllReady.nil
          exact AllReady.nil
        refine AllReady.cons rfl (fun K hK => ?_) ?_
        · go_simp
          refine hK _ _ ?_
          clear hK K
          refine wpAny_take (i := 6) (v := .bool la) rfl (by kernel_rfl) (by kernel_rfl) (by kernel_rfl) (fun _ _ _ h => h) (Or.inl ⟨by rfl, fun w' => by go_simp⟩) ?_
          refine wpAny_ready (rs := [0, 1]) (by kernel_rfl) (by simp) ?_
          refine AllReady.cons rfl (fun K hK => ?_) ?_
          · go_simp
            refine hK _ _ ?_
            clear hK K
            refine wpAny_ready (rs := [1]) (by kernel_rfl) (by simp) ?_
            refine AllReady.cons rfl (fun K hK => ?_) ?_
            · go_simp
              refine hK _ _ ?_
              clear hK K
              refine wpAny_ready (rs := [7]) (by kernel_rfl) (by simp) ?_
              refine AllReady.cons rfl (fun K hK => ?_) ?_
              · go_simp
                refine HMV.out.mono ?_
                rintro e w9 ⟨b, rfl, hb, hm, hb9⟩
                rw [HSS.out] at hm ⊢
                obtain ⟨c9, qa, hrow9, hdb9, happ⟩ := HPK.out b w9 (Nat.le_trans hbz hb) hm (below_undrew hb9)
                clear hb9 hm hb
                go_simp
                refine hK _ _ ?_
                clear hK K
                refine wpAny_ready (rs := [8]) (by kernel_rfl) (by simp) ?_
                refine AllReady.cons rfl (fun K hK => ?_) ?_
                · go_simp
                  refine hK _ _ ?_
                  clear hK K
                  refine wpAny_ready (rs := [9]) (by kernel_rfl) (by simp) ?_
                  refine AllReady.cons rfl (fun K hK => ?_) ?_
                  · refine step_app1 Try.underlying78 infoMoveSS rfl (by decide) (by rfl) _ _ (by rfl) (w2.heap.size + 1) (.slice (some ⟨g5, 0, none⟩) t cap5) _ (by rfl) hrow9 _ _ (rV S b) (by rfl) (cell_new1 _ _ _) rfl hlen hdb9 ?_
                    intro v6 w6 ho6 hg6
                    obtain ⟨c6n, f6n, ⟨g6, cap6, rfl⟩, hko, hfin⟩ := happ v6 w6 ho6 hg6
                    refine hK _ _ ?_
                    clear hK K
                    refine wpAny_ready (rs := [10]) (by kernel_rfl) (by simp) ?_
                    refine AllReady.cons rfl (fun K hK => ?_) ?_
                    · go_simp
                      refine hK _ _ ?_
                      clear hK K
                      refine wpAny_done (by kernel_rfl) ?_ _
                      exact HEND.out _ hko hfin
                    exact AllReady.nil
                  exact AllReady.nil
                exact AllReady.nil
              exact AllReady.nil
            exact AllReady.nil
          refine AllReady.cons rfl (fun K hK => ?_) ?_
          · go_simp
            refine hK _ _ ?_
            clear hK K
            refine wpAny_ready (rs := [0, 7]) (by kernel_rfl) (by simp) ?_
            refine AllReady.cons rfl (fun K hK => ?_) ?_
            · go_simp
              refine hK _ _ ?_
              clear hK K
              refine wpAny_ready (rs := [7]) (by kernel_rfl) (by simp) ?_
              refine AllReady.cons rfl (fun K hK => ?_) ?_
              · go_simp
                refine HMV.out.mono ?_
                rintro e w9 ⟨b, rfl, hb, hm, hb9⟩
                rw [HSS.out] at hm ⊢
                obtain ⟨c9, qa, hrow9, hdb9, happ⟩ := HPK.out b w9 (Nat.le_trans hbz hb) hm (below_undrew hb9)
                clear hb9 hm hb
                go_simp
                refine hK _ _ ?_
                clear hK K
                refine wpAny_ready (rs := [8]) (by kernel_rfl) (by simp) ?_
                refine AllReady.cons rfl (fun K hK => ?_) ?_
                · go_simp
                  refine hK _ _ ?_
                  clear hK K
                  refine wpAny_ready (rs := [9]) (by kernel_rfl) (by simp) ?_
                  refine AllReady.cons rfl (fun K hK => ?_) ?_
                  · refine step_app1 Try.underlying78 infoMoveSS rfl (by decide) (by rfl) _ _ (by rfl) (w2.heap.size + 1) (.slice (some ⟨g5, 0, none⟩) t cap5) _ (by rfl) hrow9 _ _ (rV S b) (by rfl) (cell_new1 _ _ _) rfl hlen hdb9 ?_
                    intro v6 w6 ho6 hg6
                    obtain ⟨c6n, f6n, ⟨g6, cap6, rfl⟩, hko, hfin⟩ := happ v6 w6 ho6 hg6
                    refine hK _ _ ?_
                    clear hK K
                    refine wpAny_ready (rs := [10]) (by kernel_rfl) (by simp) ?_
                    refine AllReady.cons rfl (fun K hK => ?_) ?_
                    · go_simp
                      refine hK _ _ ?_
                      clear hK K
                      refine wpAny_done (by kernel_rfl) ?_ _
                      exact HEND.out _ hko hfin
                    exact AllReady.nil
                  exact AllReady.nil
                exact AllReady.nil
              exact AllReady.nil
            refine AllReady.cons rfl (fun K hK => ?_) ?_
            · go_simp
              refine HMV.out.mono ?_
              rintro e w9 ⟨b, rfl, hb, hm, hb9⟩
              rw [HSS.out] at hm ⊢
              obtain ⟨c9, qa, hrow9, hdb9, happ⟩ := HPK.out b w9 (Nat.le_trans hbz hb) hm (below_undrew hb9)
              clear hb9 hm hb
              go_simp
              refine hK _ _ ?_
              clear hK K
              refine wpAny_ready (rs := [0, 8]) (by kernel_rfl) (by simp) ?_
              refine AllReady.cons rfl (fun K hK => ?_) ?_
              · go_simp
                refine hK _ _ ?_
                clear hK K
                refine wpAny_ready (rs := [8]) (by kernel_rfl) (by simp) ?_
                refine AllReady.cons rfl (fun K hK => ?_) ?_
                · go_simp
                  refine hK _ _ ?_
                  clear hK K
                  refine wpAny_ready (rs := [9]) (by kernel_rfl) (by simp) ?_
                  refine AllReady.cons rfl (fun K hK => ?_) ?_
                  · refine step_app1 Try.underlying78 infoMoveSS rfl (by decide) (by rfl) _ _ (by rfl) (w2.heap.size + 1) (.slice (some ⟨g5, 0, none⟩) t cap5) _ (by rfl) hrow9 _ _ (rV S b) (by rfl) (cell_new1 _ _ _) rfl hlen hdb9 ?_
                    intro v6 w6 ho6 hg6
                    obtain ⟨c6n, f6n, ⟨g6, cap6, rfl⟩, hko, hfin⟩ := happ v6 w6 ho6 hg6
                    refine hK _ _ ?_
                    clear hK K
                    refine wpAny_ready (rs := [10]) (by kernel_rfl) (by simp) ?_
                    refine AllReady.cons rfl (fun K hK => ?_) ?_
                    · go_simp
                      refine hK _ _ ?_
                      clear hK K
                      refine wpAny_done (by kernel_rfl) ?_ _
                      exact HEND.out _ hko hfin
                    exact AllReady.nil
                  exact AllReady.nil
                exact AllReady.nil
              refine AllReady.cons rfl (fun K hK => ?_) ?_
              · go_simp
                refine hK _ _ ?_
                clear hK K
                refine wpAny_ready (rs := [0]) (by kernel_rfl) (by simp) ?_
                refine AllReady.cons rfl (fun K hK => ?_) ?_
                · go_simp
                  refine hK _ _ ?_
                  clear hK K
                  refine wpAny_ready (rs := [9]) (by kernel_rfl) (by simp) ?_
                  refine AllReady.cons rfl (fun K hK => ?_) ?_
                  · refine step_app1 Try.underlying78 infoMoveSS rfl (by decide) (by rfl) _ _ (by rfl) (w2.heap.size + 1) (.slice (some ⟨g5, 0, none⟩) t cap5) _ (by rfl) hrow9 _ _ (rV S b) (by rfl) (cell_new1 _ _ _) rfl hlen hdb9 ?_
                    intro v6 w6 ho6 hg6
                    obtain ⟨c6n, f6n, ⟨g6, cap6, rfl⟩, hko, hfin⟩ := happ v6 w6 ho6 hg6
                    refine hK _ _ ?_
                    clear hK K
                    refine wpAny_ready (rs := [10]) (by kernel_rfl) (by simp) ?_
                    refine AllReady.cons rfl (fun K hK => ?_) ?_
                    · go_simp
                      refine hK _ _ ?_
                      clear hK K
                      refine wpAny_done (by kernel_rfl) ?_ _
                      exact HEND.out _ hko hfin
                    exact AllReady.nil
                  exact AllReady.nil
                exact AllReady.nil
              exact AllReady.nil
            exact AllReady.nil
          exact AllReady.nil
        exact AllReady.nil
      refine AllReady.cons rfl (fun K hK => ?_) ?_
      · go_simp
        refine hK _ _ ?_
        clear hK K
        refine wpAny_ready (rs := [0, 1, 3]) (by kernel_rfl) (by simp) ?_
        refine AllReady.cons rfl (fun K hK => ?_) ?_
        · go_simp
          refine hK _ _ ?_
          clear hK K
          refine wpAny_ready (rs := [1, 3]) (by kernel_rfl) (by simp) ?_
          refine AllReady.cons rfl (fun K hK => ?_) ?_
          · go_simp
            refine hK _ _ ?_
            clear hK K
            refine wpAny_ready (rs := [3]) (by kernel_rfl) (by simp) ?_
            refine AllReady.cons rfl (fun K hK => ?_) ?_
            · go_simp
              refine hK _ _ ?_
              clear hK K
              refine wpAny_take (i := 4) (v := .int .i64 (t : Int)) rfl (by kernel_rfl) (by kernel_rfl) (by kernel_rfl) (fun _ _ _ h => h) (Or.inl ⟨by rfl, fun w' => by go_simp⟩) ?_
              refine wpAny_take (i := 6) (v := .bool la) rfl (by kernel_rfl) (by kernel_rfl) (by kernel_rfl) (fun _ _ _ h => h) (Or.inl ⟨by rfl, fun w' => by go_simp⟩) ?_
              refine wpAny_ready (rs := [7]) (by kernel_rfl) (by simp) ?_
              refine AllReady.cons rfl (fun K hK => ?_) ?_
              · go_simp
                refine HMV.out.mono ?_
                rintro e w9 ⟨b, rfl, hb, hm, hb9⟩
                rw [HSS.out] at hm ⊢
                obtain ⟨c9, qa, hrow9, hdb9, happ⟩ := HPK.out b w9 (Nat.le_trans hbz hb) hm (below_undrew hb9)
                clear hb9 hm hb
                go_simp
                refine hK _ _ ?_
                clear hK K
                refine wpAny_ready (rs := [8]) (by kernel_rfl) (by simp) ?_
                refine AllReady.cons rfl (fun K hK => ?_) ?_
                · go_simp
                  refine hK _ _ ?_
                  clear hK K
                  refine wpAny_ready (rs := [9]) (by kernel_rfl) (by simp) ?_
                  refine AllReady.cons rfl (fun K hK => ?_) ?_
                  · refine step_app1 Try.underlying78 infoMoveSS rfl (by decide) (by rfl) _ _ (by rfl) (w2.heap.size + 1) (.slice (some ⟨g5, 0, none⟩) t cap5) _ (by rfl) hrow9 _ _ (rV S b) (by rfl) (cell_new1 _ _ _) rfl hlen hdb9 ?_
                    intro v6 w6 ho6 hg6
                    obtain ⟨c6n, f6n, ⟨g6, cap6, rfl⟩, hko, hfin⟩ := happ v6 w6 ho6 hg6
                    refine hK _ _ ?_
                    clear hK K
                    refine wpAny_ready (rs := [10]) (by kernel_rfl) (by simp) ?_
                    refine AllReady.cons rfl (fun K hK => ?_) ?_
                    · go_simp
                      refine hK _ _ ?_
                      clear hK K
                      refine wpAny_done (by kernel_rfl) ?_ _
                      exact HEND.out _ hko hfin
                    exact AllReady.nil
                  exact AllReady.nil
                exact AllReady.nil
              exact AllReady.nil
            exact AllReady.nil
          refine AllReady.cons rfl (fun K hK => ?_) ?_
          · go_simp
            refine hK _ _ ?_
            clear hK K
            refine wpAny_take (i := 4) (v := .int .i64 (t : Int)) rfl (by kernel_rfl) (by kernel_rfl) (by kernel_rfl) (fun _ _ _ h => h) (Or.inl ⟨by rfl, fun w' => by go_simp⟩) ?_
            refine wpAny_take (i := 6) (v := .bool la) rfl (by kernel_rfl) (by kernel_rfl) (by kernel_rfl) (fun _ _ _ h => h) (Or.inl ⟨by rfl, fun w' => by go_simp⟩) ?_
            refine wpAny_ready (rs := [1]) (by kernel_rfl) (by simp) ?_
            refine AllReady.cons rfl (fun K hK => ?_) ?_
            · go_simp
              refine hK _ _ ?_
              clear hK K
              refine wpAny_ready (rs := [7]) (by kernel_rfl) (by simp) ?_
              refine AllReady.cons rfl (fun K hK => ?_) ?_
              · go_simp
                refine HMV.out.mono ?_
                rintro e w9 ⟨b, rfl, hb, hm, hb9⟩
                rw [HSS.out] at hm ⊢
                obtain ⟨c9, qa, hrow9, hdb9, happ⟩ := HPK.out b w9 (Nat.le_trans hbz hb) hm (below_undrew hb9)
                clear hb9 hm hb
                go_simp
                refine hK _ _ ?_
                clear hK K
                refine wpAny_ready (rs := [8]) (by kernel_rfl) (by simp) ?_
                refine AllReady.cons rfl (fun K hK => ?_) ?_
                · go_simp
                  refine hK _ _ ?_
                  clear hK K
                  refine wpAny_ready (rs := [9]) (by kernel_rfl) (by simp) ?_
                  refine AllReady.cons rfl (fun K hK => ?_) ?_
                  · refine step_app1 Try.underlying78 infoMoveSS rfl (by decide) (by rfl) _ _ (by rfl) (w2.heap.size + 1) (.slice (some ⟨g5, 0, none⟩) t cap5) _ (by rfl) hrow9 _ _ (rV S b) (by rfl) (cell_new1 _ _ _) rfl hlen hdb9 ?_
                    intro v6 w6 ho6 hg6
                    obtain ⟨c6n, f6n, ⟨g6, cap6, rfl⟩, hko, hfin⟩ := happ v6 w6 ho6 hg6
                    refine hK _ _ ?_
                    clear hK K
                    refine wpAny_ready (rs := [10]) (by kernel_rfl) (by simp) ?_
                    refine AllReady.cons rfl (fun K hK => ?_) ?_
                    · go_simp
                      refine hK _ _ ?_
                      clear hK K
                      refine wpAny_done (by kernel_rfl) ?_ _
                      exact HEND.out _ hko hfin
                    exact AllReady.nil
                  exact AllReady.nil
                exact AllReady.nil
              exact AllReady.nil
            exact AllReady.nil
          exact AllReady.nil
        refine AllReady.cons rfl (fun K hK => ?_) ?_
        · go_simp
          refine hK _ _ ?_
          clear hK K
          refine wpAny_ready (rs := [0, 3]) (by kernel_rfl) (by simp) ?_
          refine AllReady.cons rfl (fun K hK => ?_) ?_
          · go_simp
            refine hK _ _ ?_
            clear hK K
            refine wpAny_ready (rs := [3]) (by kernel_rfl) (by simp) ?_
            refine AllReady.cons rfl (fun K hK => ?_) ?_
            · go_simp
              refine hK _ _ ?_
              clear hK K
              refine wpAny_take (i := 4) (v := .int .i64 (t : Int)) rfl (by kernel_rfl) (by kernel_rfl) (by kernel_rfl) (fun _ _ _ h => h) (Or.inl ⟨by rfl, fun w' => by go_simp⟩) ?_
              refine wpAny_take (i := 6) (v := .bool la) rfl (by kernel_rfl) (by kernel_rfl) (by kernel_rfl) (fun _ _ _ h => h) (Or.inl ⟨by rfl, fun w' => by go_simp⟩) ?_
              refine wpAny_ready (rs := [7]) (by kernel_rfl) (by simp) ?_
              refine AllReady.cons rfl (fun K hK => ?_) ?_
              · go_simp
                refine HMV.out.mono ?_
                rintro e w9 ⟨b, rfl, hb, hm, hb9⟩
                rw [HSS.out] at hm ⊢
                obtain ⟨c9, qa, hrow9, hdb9, happ⟩ := HPK.out b w9 (Nat.le_trans hbz hb) hm (below_undrew hb9)
                clear hb9 hm hb
                go_simp
                refine hK _ _ ?_
                clear hK K
                refine wpAny_ready (rs := [8]) (by kernel_rfl) (by simp) ?_
                refine AllReady.cons rfl (fun K hK => ?_) ?_
                · go_simp
                  refine hK _ _ ?_
                  clear hK K
                  refine wpAny_ready (rs := [9]) (by kernel_rfl) (by simp) ?_
                  refine AllReady.cons rfl (fun K hK => ?_) ?_
                  · refine step_app1 Try.underlying78 infoMoveSS rfl (by decide) (by rfl) _ _ (by rfl) (w2.heap.size + 1) (.slice (some ⟨g5, 0, none⟩) t cap5) _ (by rfl) hrow9 _ _ (rV S b) (by rfl) (cell_new1 _ _ _) rfl hlen hdb9 ?_
                    intro v6 w6 ho6 hg6
                    obtain ⟨c6n, f6n, ⟨g6, cap6, rfl⟩, hko, hfin⟩ := happ v6 w6 ho6 hg6
                    refine hK _ _ ?_
                    clear hK K
                    refine wpAny_ready (rs := [10]) (by kernel_rfl) (by simp) ?_
                    refine AllReady.cons rfl (fun K hK => ?_) ?_
                    · go_simp
                      refine hK _ _ ?_
                      clear hK K
                      refine wpAny_done (by kernel_rfl) ?_ _
                      exact HEND.out _ hko hfin
                    exact AllReady.nil
                  exact AllReady.nil
                exact AllReady.nil
              exact AllReady.nil
            exact AllReady.nil
          refine AllReady.cons rfl (fun K hK => ?_) ?_
          · go_simp
            refine hK _ _ ?_
            clear hK K
            refine wpAny_take (i := 4) (v := .int .i64 (t : Int)) rfl (by kernel_rfl) (by kernel_rfl) (by kernel_rfl) (fun _ _ _ h => h) (Or.inl ⟨by rfl, fun w' => by go_simp⟩) ?_
            refine wpAny_take (i := 6) (v := .bool la) rfl (by kernel_rfl) (by kernel_rfl) (by kernel_rfl) (fun _ _ _ h => h) (Or.inl ⟨by rfl, fun w' => by go_simp⟩) ?_
            refine wpAny_ready (rs := [0, 7]) (by kernel_rfl) (by simp) ?_
            refine AllReady.cons rfl (fun K hK => ?_) ?_
            · go_simp
              refine hK _ _ ?_
              clear hK K
              refine wpAny_ready (rs := [7]) (by kernel_rfl) (by simp) ?_
              refine AllReady.cons rfl (fun K hK => ?_) ?_
              · go_simp
                refine HMV.out.mono ?_
                rintro e w9 ⟨b, rfl, hb, hm, hb9⟩
                rw [HSS.out] at hm ⊢
                obtain ⟨c9, qa, hrow9, hdb9, happ⟩ := HPK.out b w9 (Nat.le_trans hbz hb) hm (below_undrew hb9)
                clear hb9 hm hb
                go_simp
                refine hK _ _ ?_
                clear hK K
                refine wpAny_ready (rs := [8]) (by kernel_rfl) (by simp) ?_
                refine AllReady.cons rfl (fun K hK => ?_) ?_
                · go_simp
                  refine hK _ _ ?_
                  clear hK K
                  refine wpAny_ready (rs := [9]) (by kernel_rfl) (by simp) ?_
                  refine AllReady.cons rfl (fun K hK => ?_) ?_
                  · refine step_app1 Try.underlying78 infoMoveSS rfl (by decide) (by rfl) _ _ (by rfl) (w2.heap.size + 1) (.slice (some ⟨g5, 0, none⟩) t cap5) _ (by rfl) hrow9 _ _ (rV S b) (by rfl) (cell_new1 _ _ _) rfl hlen hdb9 ?_
                    intro v6 w6 ho6 hg6
                    obtain ⟨c6n, f6n, ⟨g6, cap6, rfl⟩, hko, hfin⟩ := happ v6 w6 ho6 hg6
                    refine hK _ _ ?_
                    clear hK K
                    refine wpAny_ready (rs := [10]) (by kernel_rfl) (by simp) ?_
                    refine AllReady.cons rfl (fun K hK => ?_) ?_
                    · go_simp
                      refine hK _ _ ?_
                      clear hK K
                      refine wpAny_done (by kernel_rfl) ?_ _
                      exact HEND.out _ hko hfin
                    exact AllReady.nil
                  exact AllReady.nil
                exact AllReady.nil
              exact AllReady.nil
            refine AllReady.cons rfl (fun K hK => ?_) ?_
            · go_simp
              refine HMV.out.mono ?_
              rintro e w9 ⟨b, rfl, hb, hm, hb9⟩
              rw [HSS.out] at hm ⊢
              obtain ⟨c9, qa, hrow9, hdb9, happ⟩ := HPK.out b w9 (Nat.le_trans hbz hb) hm (below_undrew hb9)
              clear hb9 hm hb
              go_simp
              refine hK _ _ ?_
              clear hK K
              refine wpAny_ready (rs := [0, 8]) (by kernel_rfl) (by simp) ?_
              refine AllReady.cons rfl (fun K hK => ?_) ?_
              · go_simp
                refine hK _ _ ?_
                clear hK K
                refine wpAny_ready (rs := [8]) (by kernel_rfl) (by simp) ?_
                refine AllReady.cons rfl (fun K hK => ?_) ?_
                · go_simp
                  refine hK _ _ ?_
                  clear hK K
                  refine wpAny_ready (rs := [9]) (by kernel_rfl) (by simp) ?_
                  refine AllReady.cons rfl (fun K hK => ?_) ?_
                  · refine step_app1 Try.underlying78 infoMoveSS rfl (by decide) (by rfl) _ _ (by rfl) (w2.heap.size + 1) (.slice (some ⟨g5, 0, none⟩) t cap5) _ (by rfl) hrow9 _ _ (rV S b) (by rfl) (cell_new1 _ _ _) rfl hlen hdb9 ?_
                    intro v6 w6 ho6 hg6
                    obtain ⟨c6n, f6n, ⟨g6, cap6, rfl⟩, hko, hfin⟩ := happ v6 w6 ho6 hg6
                    refine hK _ _ ?_
                    clear hK K
                    refine wpAny_ready (rs := [10]) (by kernel_rfl) (by simp) ?_
                    refine AllReady.cons rfl (fun K hK => ?_) ?_
                    · go_simp
                      refine hK _ _ ?_
                      clear hK K
                      refine wpAny_done (by kernel_rfl) ?_ _
                      exact HEND.out _ hko hfin
                    exact AllReady.nil
                  exact AllReady.nil
                exact AllReady.nil
              refine AllReady.cons rfl (fun K hK => ?_) ?_
              · go_simp
                refine hK _ _ ?_
                clear hK K
                refine wpAny_ready (rs := [0]) (by kernel_rfl) (by simp) ?_
                refine AllReady.cons rfl (fun K hK => ?_) ?_
                · go_simp
                  refine hK _ _ ?_
                  clear hK K
                  refine wpAny_ready (rs := [9]) (by kernel_rfl) (by simp) ?_
                  refine AllReady.cons rfl (fun K hK => ?_) ?_
                  · refine step_app1 Try.underlying78 infoMoveSS rfl (by decide) (by rfl) _ _ (by rfl) (w2.heap.size + 1) (.slice (some ⟨g5, 0, none⟩) t cap5) _ (by rfl) hrow9 _ _ (rV S b) (by rfl) (cell_new1 _ _ _) rfl hlen hdb9 ?_
                    intro v6 w6 ho6 hg6
                    obtain ⟨c6n, f6n, ⟨g6, cap6, rfl⟩, hko, hfin⟩ := happ v6 w6 ho6 hg6
                    refine hK _ _ ?_
                    clear hK K
                    refine wpAny_ready (rs := [10]) (by kernel_rfl) (by simp) ?_
                    refine AllReady.cons rfl (fun K hK => ?_) ?_
                    · go_simp
                      refine hK _ _ ?_
                      clear hK K
                      refine wpAny_done (by kernel_rfl) ?_ _
                      exact HEND.out _ hko hfin
                    exact AllReady.nil
                  exact AllReady.nil
                exact AllReady.nil
              exact AllReady.nil
            exact AllReady.nil
          exact AllReady.nil
        refine AllReady.cons rfl (fun K hK => ?_) ?_
        · go_simp
          refine hK _ _ ?_
          clear hK K
          refine wpAny_take (i := 4) (v := .int .i64 (t : Int)) rfl (by kernel_rfl) (by kernel_rfl) (by kernel_rfl) (fun _ _ _ h => h) (Or.inl ⟨by rfl, fun w' => by go_simp⟩) ?_
          refine wpAny_take (i := 6) (v := .bool la) rfl (by kernel_rfl) (by kernel_rfl) (by kernel_rfl) (fun _ _ _ h => h) (Or.inl ⟨by rfl, fun w' => by go_simp⟩) ?_
          refine wpAny_ready (rs := [0, 1]) (by kernel_rfl) (by simp) ?_
          refine AllReady.cons rfl (fun K hK => ?_) ?_
          · go_simp
            refine hK _ _ ?_
            clear hK K
            refine wpAny_ready (rs := [1]) (by kernel_rfl) (by simp) ?_
            refine AllReady.cons rfl (fun K hK => ?_) ?_
            · go_simp
              refine hK _ _ ?_
              clear hK K
              refine wpAny_ready (rs := [7]) (by kernel_rfl) (by simp) ?_
              refine AllReady.cons rfl (fun K hK => ?_) ?_
              · go_simp
                refine HMV.out.mono ?_
                rintro e w9 ⟨b, rfl, hb, hm, hb9⟩
                rw [HSS.out] at hm ⊢
                obtain ⟨c9, qa, hrow9, hdb9, happ⟩ := HPK.out b w9 (Nat.le_trans hbz hb) hm (below_undrew hb9)
                clear hb9 hm hb
                go_simp
                refine hK _ _ ?_
                clear hK K
                refine wpAny_ready (rs := [8]) (by kernel_rfl) (by simp) ?_
                refine AllReady.cons rfl (fun K hK => ?_) ?_
                · go_simp
                  refine hK _ _ ?_
                  clear hK K
                  refine wpAny_ready (rs := [9]) (by kernel_rfl) (by simp) ?_
                  refine AllReady.cons rfl (fun K hK => ?_) ?_
                  · refine step_app1 Try.underlying78 infoMoveSS rfl (by decide) (by rfl) _ _ (by rfl) (w2.heap.size + 1) (.slice (some ⟨g5, 0, none⟩) t cap5) _ (by rfl) hrow9 _ _ (rV S b) (by rfl) (cell_new1 _ _ _) rfl hlen hdb9 ?_
                    intro v6 w6 ho6 hg6
                    obtain ⟨c6n, f6n, ⟨g6, cap6, rfl⟩, hko, hfin⟩ := happ v6 w6 ho6 hg6
                    refine hK _ _ ?_
                    clear hK K
                    refine wpAny_ready (rs := [10]) (by kernel_rfl) (by simp) ?_
                    refine AllReady.cons rfl (fun K hK => ?_) ?_
                    · go_simp
                      refine hK _ _ ?_
                      clear hK K
                      refine wpAny_done (by kernel_rfl) ?_ _
                      exact HEND.out _ hko hfin
                    exact AllReady.nil
                  exact AllReady.nil
                exact AllReady.nil
              exact AllReady.nil
            exact AllReady.nil
          refine AllReady.cons rfl (fun K hK => ?_) ?_
          · go_simp
            refine hK _ _ ?_
            clear hK K
            refine wpAny_ready (rs := [0, 7]) (by kernel_rfl) (by simp) ?_
            refine AllReady.cons rfl (fun K hK => ?_) ?_
            · go_simp
              refine hK _ _ ?_
              clear hK K
              refine wpAny_ready (rs := [7]) (by kernel_rfl) (by simp) ?_
              refine AllReady.cons rfl (fun K hK => ?_) ?_
              · go_simp
                refine HMV.out.mono ?_
                rintro e w9 ⟨b, rfl, hb, hm, hb9⟩
                rw [HSS.out] at hm ⊢
                obtain ⟨c9, qa, hrow9, hdb9, happ⟩ := HPK.out b w9 (Nat.le_trans hbz hb) hm (below_undrew hb9)
                clear hb9 hm hb
                go_simp
                refine hK _ _ ?_
                clear hK K
                refine wpAny_ready (rs := [8]) (by kernel_rfl) (by simp) ?_
                refine AllReady.cons rfl (fun K hK => ?_) ?_
                · go_simp
                  refine hK _ _ ?_
                  clear hK K
                  refine wpAny_ready (rs := [9]) (by kernel_rfl) (by simp) ?_
                  refine AllReady.cons rfl (fun K hK => ?_) ?_
                  · refine step_app1 Try.underlying78 infoMoveSS rfl (by decide) (by rfl) _ _ (by rfl) (w2.heap.size + 1) (.slice (some ⟨g5, 0, none⟩) t cap5) _ (by rfl) hrow9 _ _ (rV S b) (by rfl) (cell_new1 _ _ _) rfl hlen hdb9 ?_
                    intro v6 w6 ho6 hg6
                    obtain ⟨c6n, f6n, ⟨g6, cap6, rfl⟩, hko, hfin⟩ := happ v6 w6 ho6 hg6
                    refine hK _ _ ?_
                    clear hK K
                    refine wpAny_ready (rs := [10]) (by kernel_rfl) (by simp) ?_
                    refine AllReady.cons rfl (fun K hK => ?_) ?_
                    · go_simp
                      refine hK _ _ ?_
                      clear hK K
                      refine wpAny_done (by kernel_rfl) ?_ _
                      exact HEND.out _ hko hfin
                    exact AllReady.nil
                  exact AllReady.nil
                exact AllReady.nil
              exact AllReady.nil
            refine AllReady.cons rfl (fun K hK => ?_) ?_
            · go_simp
              refine HMV.out.mono ?_
              rintro e w9 ⟨b, rfl, hb, hm, hb9⟩
              rw [HSS.out] at hm ⊢
              obtain ⟨c9, qa, hrow9, hdb9, happ⟩ := HPK.out b w9 (Nat.le_trans hbz hb) hm (below_undrew hb9)
              clear hb9 hm hb
              go_simp
              refine hK _ _ ?_
              clear hK K
              refine wpAny_ready (rs := [0, 8]) (by kernel_rfl) (by simp) ?_
              refine AllReady.cons rfl (fun K hK => ?_) ?_
              · go_simp
                refine hK _ _ ?_
                clear hK K
                refine wpAny_ready (rs := [8]) (by kernel_rfl) (by simp) ?_
                refine AllReady.cons rfl (fun K hK => ?_) ?_
                · go_simp
                  refine hK _ _ ?_
                  clear hK K
                  refine wpAny_ready (rs := [9]) (by kernel_rfl) (by simp) ?_
                  refine AllReady.cons rfl (fun K hK => ?_) ?_
                  · refine step_app1 Try.underlying78 infoMoveSS rfl (by decide) (by rfl) _ _ (by rfl) (w2.heap.size + 1) (.slice (some ⟨g5, 0, none⟩) t cap5) _ (by rfl) hrow9 _ _ (rV S b) (by rfl) (cell_new1 _ _ _) rfl hlen hdb9 ?_
                    intro v6 w6 ho6 hg6
                    obtain ⟨c6n, f6n, ⟨g6, cap6, rfl⟩, hko, hfin⟩ := happ v6 w6 ho6 hg6
                    refine hK _ _ ?_
                    clear hK K
                    refine wpAny_ready (rs := [10]) (by kernel_rfl) (by simp) ?_
                    refine AllReady.cons rfl (fun K hK => ?_) ?_
                    · go_simp
                      refine hK _ _ ?_
                      clear hK K
                      refine wpAny_done (by kernel_rfl) ?_ _
                      exact HEND.out _ hko hfin
                    exact AllReady.nil
                  exact AllReady.nil
                exact AllReady.nil
              refine AllReady.cons rfl (fun K hK => ?_) ?_
              · go_simp
                refine hK _ _ ?_
                clear hK K
                refine wpAny_ready (rs := [0]) (by kernel_rfl) (by simp) ?_
                refine AllReady.cons rfl (fun K hK => ?_) ?_
                · go_simp
                  refine hK _ _ ?_
                  clear hK K
                  refine wpAny_ready (rs := [9]) (by kernel_rfl) (by simp) ?_
                  refine AllReady.cons rfl (fun K hK => ?_) ?_
                  · refine step_app1 Try.underlying78 infoMoveSS rfl (by decide) (by rfl) _ _ (by rfl) (w2.heap.size + 1) (.slice (some ⟨g5, 0, none⟩) t cap5) _ (by rfl) hrow9 _ _ (rV S b) (by rfl) (cell_new1 _ _ _) rfl hlen hdb9 ?_
                    intro v6 w6 ho6 hg6
                    obtain ⟨c6n, f6n, ⟨g6, cap6, rfl⟩, hko, hfin⟩ := happ v6 w6 ho6 hg6
                    refine hK _ _ ?_
                    clear hK K
                    refine wpAny_ready (rs := [10]) (by kernel_rfl) (by simp) ?_
                    refine AllReady.cons rfl (fun K hK => ?_) ?_
                    · go_simp
                      refine hK _ _ ?_
                      clear hK K
                      refine wpAny_done (by kernel_rfl) ?_ _
                      exact HEND.out _ hko hfin
                    exact AllReady.nil
                  exact AllReady.nil
                exact AllReady.nil
              exact AllReady.nil
            exact AllReady.nil
          exact AllReady.nil
        exact AllReady.nil
      exact AllReady.nil
    case done =>
      rintro Dd ys W hDd hys hI hK
      have hys := hys.trans (congrArg List.range HCH.out)
      have hyl : ys.length = n + M := by
        have := congrArg List.length hys
        rw [List.length_map, List.length_range] at this
        exact this
      rw [hys, hyl] at hI
      obtain ⟨hbw, hOc, hx6, hx1, hx2, ⟨gs, hgl, hbf, hbr⟩⟩ := hI
      have HK := Lib.hid hK
      obtain ⟨v5, k1, k2, g5, cap5, rfl⟩ := hbf
      have d8 := k1.cell
      obtain ⟨⟨d0, d1⟩, -⟩ := hOc.two
      have hmk := fun W : World => run_mkLikely S (by omega) .i64 .i64 W
      have hst := HST.out
      have hgl2 : (gs.map (rV S)).length = n + M := by rw [List.length_map, hgl]
      rw [hgl2] at d8
      have hbz := hbw.size
      have HHI := Lib.hid hbr
      have HK1 := Lib.hid k1
      have HK2 := Lib.hid k2
      have HOC := Lib.hid hOc
      have HBW := Lib.hid hbw
      have HX6 := Lib.hid hx6
      clear hx6 hx1 hx2 hys hyl hgl2 hbr hK k1 k2 hOc hmk hbw
      go_wp2_with fail
      refine (hst _).mono ?_
      rintro e w4 ⟨rfl, b4⟩
      have z4 := b4.size
      have c8 := (b4.cell (p := ⟨w2.heap.size + 1 + 1, 0, none⟩) HK1.out.lt).trans d8
      have hmk := run_mkLikely S (by omega) .i64 .i64 w4
      obtain ⟨w5, e5⟩ : ∃ q : World, q = w4.alloc (.cells (madeCells #[Value.bool false, .float .f32 0] (S * 2)) 87) := ⟨_, rfl⟩
      have R5 : SRow 87 w5 w4.heap.size S (noneR S) := by rw [e5]; exact SRow.new _ w4 S
      have z5 : w4.heap.size + 1 ≤ w5.heap.size := by rw [e5]; simp
      have b5 : Below w4.heap.size w4 w5 := by rw [e5]; exact (Below.refl _ _).alloc (Nat.le_refl _) _
      obtain ⟨f0, y0, p0, p1, _⟩ := R5.cells (s := 0) (by omega)
      have p0 : w5.cell? ⟨w4.heap.size, 0, none⟩ = some (.bool f0) := p0
      have p2 := R5.frz 0
      have c8 := (b5.cell (p := ⟨w2.heap.size + 1 + 1, 0, none⟩) (Nat.lt_of_lt_of_le HK1.out.lt z4)).trans c8
      have HR5 := Lib.hid R5
      have HB5 := Lib.hid b5
      have HB4 := Lib.hid b4
      have hS0 : (0 : Int) < (S : Int) := by omega
      obtain ⟨w6, e6⟩ : ∃ q : World, q = (w5.setCell ⟨w4.heap.size, 0, none⟩ (.bool true)).alloc (.cells #[.slice (some ⟨w4.heap.size, 0, none⟩) S S] 84) := ⟨_, rfl⟩
      have h5 : ∃ cs : Array Value, Obj w5 w4.heap.size 87 cs ∧ cs.size = S * 2 ∧ ∀ s, s < S → cs[s * 2]? = some (.bool false) ∧ cs[s * 2 + 1]? = some (.float .f32 0) := by rw [e5]; exact ⟨_, Obj.new _ _ _, size_madeCells _ _, fun s hs => sums_made hs⟩
      have b6 : Below w4.heap.size w4 w6 := by rw [e6]; exact (Below.setCell (p := ⟨w4.heap.size, 0, none⟩) b5 (Nat.le_refl _) _).alloc (by simp; omega) _
      have s6 : SRow 87 w6 w4.heap.size S (oneR S) := by rw [e6]; exact (SRow.start h5 hS1).alloc _
      have o6 : Obj w6 w5.heap.size 84 #[.slice (some ⟨w4.heap.size, 0, none⟩) S S] := by rw [e6]; have h := Obj.new (w5.setCell ⟨w4.heap.size, 0, none⟩ (.bool true)) 84 #[.slice (some ⟨w4.heap.size, 0, none⟩) S S]; simpa using h
      have own6 : Ow w6 w4.heap.size 84 (.slice (some ⟨w5.heap.size, 0, none⟩) 1 1) ([w4.heap.size].map (rV S)) := by
        rw [e6]
        have h := World.ownsRow_lit (base := w4.heap.size) (e := 84) (size := 1) (w5.setCell ⟨w4.heap.size, 0, none⟩ (.bool true)) #[.slice (some ⟨w4.heap.size, 0, none⟩) S S] 1 (by simp; omega) (by decide) rfl
        have hz : (w5.setCell ⟨w4.heap.size, 0, none⟩ (.bool true)).heap.size = w5.heap.size := by simp
        rw [hz] at h
        exact h
      have HOWN6 := Lib.hid own6
      have c8 := (b6.cell (p := ⟨w2.heap.size + 1 + 1, 0, none⟩) (Nat.lt_of_lt_of_le HK1.out.lt z4)).trans ((b4.cell (p := ⟨w2.heap.size + 1 + 1, 0, none⟩) HK1.out.lt).trans d8)
      have HB6 := Lib.hid b6
      have HB4 := Lib.hid b4
      have HC84 := Lib.hid ((b4.cell (p := ⟨w2.heap.size + 1 + 1, 0, none⟩) HK1.out.lt).trans d8)
      have HS6 := Lib.hid s6
      have HO6 := Lib.hid o6
      clear p1 R5 b5 b4 d8 d0 d1 b6 s6 o6 h5 own6
      go_wp2_with (first | (rw [← e5]; clear e5) | (rw [← e6]; clear e6))
      go_loopw [11, 12] (fun v i wr => ∃ (t : Nat) (bs : List Nat), t ≤ n + M ∧ i = .int .i64 ((n : Int) + (M : Int) - 1 - (t : Int)) ∧ bs.length = t + 1 ∧ AR2 w4.heap.size S (fun j => bwdT M ms xs n j) wr v bs ∧ (∀ j, j < bs.length → w4.heap.size ≤ bs.getD j 0) ∧ bs.getD 0 0 = w4.heap.size ∧ Below w4.heap.size w4 wr) (fun _ i _ => (intOf i + 1).toNat)
      case atStart =>
        refine ⟨0, [w4.heap.size], by omega, by simp, rfl, ?_, ?_, rfl, HB6.out⟩
        · refine ⟨HOWN6.out, fun i hi => ?_⟩
          obtain rfl : i = 0 := by simpa using hi
          show SRow _ _ w4.heap.size S (oneR (2 ^ M))
          rw [HSS.out]
          exact HS6.out
        · intro j hj
          obtain rfl : j = 0 := by simpa using hj
          exact Nat.le_refl _
      case round =>
        obtain ⟨t, bs, ht, rfl, hbl, hv, hbb, hb0, hbe⟩ := hrel
        obtain ⟨wG, rfl⟩ : ∃ q : World, q = wr := ⟨_, rfl⟩
        by_cases hlt : t < n + M
        · obtain ⟨g, cg, rfl, hgb, hgz, hown, hcell⟩ := hv.get (by omega)
          have hzG := hbe.size
          have hct := hcell t (by omega)
          have hl1 : (bs.length : Int) - 1 = (t : Int) := by omega
          have hge : decide ((0 : Int) ≤ (n : Int) + (M : Int) - 1 - (t : Int)) = true := decide_eq_true (by omega)
          have HV := Lib.hid hv
          have HBB := Lib.hid hbb
          have HB0 := Lib.hid hb0
          have HBE := Lib.hid hbe
          have hbe0 := hbe
          have HOWN := Lib.hid hown
          have HBL := Lib.hid hbl
          have c8 := (hbe.cell (p := ⟨w2.heap.size + 1 + 1, 0, none⟩) (Nat.lt_of_lt_of_le HK1.out.lt z4)).trans HC84.out
          obtain ⟨K, hK1, hK2⟩ : ∃ K : Nat, n + M - 1 - t = K ∧ (n : Int) + (M : Int) - 1 - (t : Int) = (K : Int) := ⟨_, rfl, by omega⟩
          have hKN : K < n + M := by omega
          have hgc := HK2.out.cellAt K (by rw [List.length_map]; omega)
          have hg5 : g5 < W.heap.size := (World.ownsRow.lt HK2.out g5 rfl).2
          rw [List.getElem?_map, List.getElem?_eq_getElem (by omega), Option.map_some] at hgc
          obtain ⟨gm, egm⟩ : ∃ b, gs.getD K 0 = b := ⟨_, rfl⟩
          have hgm1 : gs[K]'(by omega) = gm := by rw [← egm]; simp [List.getD, show K < gs.length by omega]
          rw [hgm1] at hgc
          unfold rV at hgc
          have c5 := (hbe.cell (p := ⟨g5, K, none⟩) (Nat.lt_of_lt_of_le hg5 z4)).trans ((HB4.out.cell (p := ⟨g5, K, none⟩) hg5).trans hgc)
          have hmv := (HHI.out K hKN).2
          rw [egm] at hmv
          unfold rV at hct
          clear hv hbb hb0 hbe hown hcell hgc hgm1
          rw [hK2] at hge ⊢
          obtain ⟨bt, ebt⟩ : ∃ b, bs.getD t 0 = b := ⟨_, rfl⟩
          have hst2 := HV.out.2 t (by omega)
          rw [ebt] at hct hst2
          have hmG := (hmv.below (HB4.out.mono (Nat.le_refl _)) hmv.lt).below hbe0 (Nat.lt_of_lt_of_le hmv.lt z4)
          have hbk : ∀ w6 : World, Below wG.heap.size wG w6 → Calls Try.prog 46 #[.slice (some ⟨bt, 0, none⟩) S S, .slice (some ⟨gm, 0, none⟩) S S] w6 fun e w' => ∃ b, e = .returned (.slice (some ⟨b, 0, none⟩) S S) ∧ w6.heap.size ≤ b ∧ SRow 87 w' b S (bwdT M ms xs n (t + 1)) ∧ Below w6.heap.size w6 w' := fun w6 q => by
            have h := impl_backward_c w6 M hM4 ms (partL ms.length xs ((List.range (n + M)).getD K 0)) (decide (n ≤ K)) bt gm (bwdT M ms xs n t) (by rw [HSS.out]; exact hst2.below q hst2.lt) (by rw [HSS.out]; exact hmG.below q hmG.lt)
            rw [HSS.out] at h
            have hr : bwdT M ms xs n (t + 1) = bwdR M ms (partL ms.length xs ((List.range (n + M)).getD K 0)) (decide (n ≤ K)) (bwdT M ms xs n t) S := by
              rw [← HSS.out, show (List.range (n + M)).getD K 0 = K by simp [List.getD, hKN], ← hK1]
              rfl
            rw [hr]
            exact h
          have HBK := Lib.hid hbk
          clear hbk hst2 hmG
          have hlen : (bs.map (rV S)).length + 1 ≤ 1099511627776 := by rw [List.length_map]; omega
          go_wp2_with fail
          have hw1 : IntKind.i64.wrap ((t : Int) + 1 - 1) = (t : Int) := IntWalk.i64_in _ (by omega) |>.trans (by omega)
          have hw2 : IntKind.i64.wrap (t : Int) = (t : Int) := IntWalk.i64_in _ (by omega)
          have ht1 : (t : Int) < (t : Int) + 1 := by omega
          have hKN2 : (K : Int) < (n : Int) + (M : Int) := by omega
          have HAP : Hid (∀ (w7 : World) (nb : Nat), wG.heap.size ≤ nb → SRow 87 w7 nb S (bwdT M ms xs n (t + 1)) → Below wG.heap.size wG w7 →
              Ow (w7.alloc (.cells #[.slice (some ⟨nb, 0, none⟩) S S] 84)) w4.heap.size 84 (.slice (some ⟨g, 0, none⟩) bs.length cg) (bs.map (rV S)) ∧ w4.heap.size ≤ (w7.alloc (.cells #[.slice (some ⟨nb, 0, none⟩) S S] 84)).heap.size ∧
              ∀ (v8 : Value) (w8 : World), Ow w8 w4.heap.size 84 v8 (bs.map (rV S) ++ [rV S nb]) → (w7.alloc (.cells #[.slice (some ⟨nb, 0, none⟩) S S] 84)).grownBy w8 (Value.slice (some ⟨g, 0, none⟩) bs.length cg).ownBlock →
                ∃ bs' : List Nat, bs'.length = t + 1 + 1 ∧ AR2 w4.heap.size S (fun j => bwdT M ms xs n j) w8 v8 bs' ∧ (∀ j, j < bs'.length → w4.heap.size ≤ bs'.getD j 0) ∧ bs'.getD 0 0 = w4.heap.size ∧ Below w4.heap.size w4 w8) := Lib.hid (by
            intro w7 nb hnb hs7 hb7
            have hz7 := hb7.size
            have hrow := own_below HOWN.out hb7 (Nat.le_refl _)
            have how : Ow w7 w4.heap.size 84 (.slice (some ⟨g, 0, none⟩) bs.length cg) (bs.map (rV S)) := by
              unfold Ow
              rw [List.length_map]
              exact hrow
            refine ⟨World.ownsRow.alloc how _, by simp; omega, fun v8 w8 h8 hg8 => ⟨bs ++ [nb], by simp [HBL.out], ?_, fun j hj => ?_, ?_, ?_⟩⟩
            · exact AR2.step HV.out hb7 (by rw [HBL.out]; exact hs7) _ hg8 h8
            · rw [List.length_append, List.length_singleton] at hj
              by_cases q : j < bs.length
              · have e1 : (bs ++ [nb]).getD j 0 = bs.getD j 0 := by simp only [List.getD, List.getElem?_append_left q]
                rw [e1]
                exact HBB.out j q
              · obtain rfl : j = bs.length := by omega
                have e1 : (bs ++ [nb]).getD bs.length 0 = nb := by simp [List.getD]
                rw [e1]
                omega
            · have e1 : (bs ++ [nb]).getD 0 0 = bs.getD 0 0 := by simp only [List.getD, List.getElem?_append_left (show 0 < bs.length by have := HBL.out; omega)]
              rw [e1]
              exact HB0.out
            · have b8 := HBE.out.trans (hb7.mono (by omega))
              exact (b8.alloc (by omega) (.cells #[.slice (some ⟨nb, 0, none⟩) S S] 84)).grown hg8 (by simp; omega) fun r hr => by cases hr; exact hgb)
          have htb : t < bs.length := by omega
          have htb2 : (t : Int) < (bs.length : Int) := by omega
          clear hbl HV HBB HBE HOWN hgb
          refine wp_region_noPanic ?_
          refine wp_region_any (by kernel_rfl) ?_
          change wpAny _ _ _ _ _ _ _ (World.drew _)
          refine wpAny_take (i := 0) (v := .slice (some ⟨g, 0, none⟩) bs.length cg) rfl (by kernel_rfl) (by kernel_rfl) (by kernel_rfl) (fun _ _ _ h => h) (Or.inl ⟨by rfl, fun w' => by go_simp⟩) ?_
          refine wpAny_take (i := 1) (v := .slice (some ⟨g, 0, none⟩) bs.length cg) rfl (by kernel_rfl) (by kernel_rfl) (by kernel_rfl) (fun _ _ _ h => h) (Or.inl ⟨by rfl, fun w' => by go_simp⟩) ?_
          refine wpAny_take (i := 2) (v := .slice (some ⟨g, 0, none⟩) bs.length cg) rfl (by kernel_rfl) (by kernel_rfl) (by kernel_rfl) (fun _ _ _ h => h) (Or.inl ⟨by rfl, fun w' => by go_simp⟩) ?_
          refine wpAny_take (i := 3) (v := .int .i64 (bs.length : Int)) rfl (by kernel_rfl) (by kernel_rfl) (by kernel_rfl) (fun _ _ _ h => h) (Or.inl ⟨by rfl, fun w' => by go_simp⟩) ?_
          refine wpAny_take (i := 4) (v := .int .i64 (t : Int)) rfl (by kernel_rfl) (by kernel_rfl) (by kernel_rfl) (fun _ _ _ h => h) (Or.inl ⟨by rfl, fun w' => by go_simp⟩) ?_
          refine wpAny_take (i := 5) (v := .pointer (some ⟨g, t, none⟩)) rfl (by kernel_rfl) (by kernel_rfl) (by kernel_rfl) (fun _ _ _ h => h) (Or.inl ⟨by rfl, fun w' => by go_simp⟩) ?_
          refine wpAny_take (i := 8) (v := .int .i64 (K : Int)) rfl (by kernel_rfl) (by kernel_rfl) (by kernel_rfl) (fun _ _ _ h => h) (Or.inl ⟨by rfl, fun w' => by go_simp⟩) ?_
          refine wpAny_ready (rs := [6, 7]) (by kernel_rfl) (by simp) ?_
          refine AllReady.cons rfl (fun K9 hK9 => ?_) ?_
          · go_simp
            refine hK9 _ _ ?_
            clear hK9 K9
            refine wpAny_ready (rs := [7]) (by kernel_rfl) (by simp) ?_
            refine AllReady.cons rfl (fun K9 hK9 => ?_) ?_
            · go_simp
              refine hK9 _ _ ?_
              clear hK9 K9
              refine wpAny_take (i := 9) (v := .pointer (some ⟨g5, K, none⟩)) rfl (by kernel_rfl) (by kernel_rfl) (by kernel_rfl) (fun _ _ _ h => h) (Or.inl ⟨by rfl, fun w' => by go_simp⟩) ?_
              refine wpAny_ready (rs := [10]) (by kernel_rfl) (by simp) ?_
              refine AllReady.cons rfl (fun K9 hK9 => ?_) ?_
              · go_simp
                refine hK9 _ _ ?_
                clear hK9 K9
                refine wpAny_ready (rs := [11]) (by kernel_rfl) (by simp) ?_
                refine AllReady.cons rfl (fun K9 hK9 => ?_) ?_
                · go_simp
                  refine (HBK.out _ (below_drewN (Below.refl wG.heap.size wG) 1)).mono ?_
                  rintro e w7 ⟨nb, rfl, hnb, hs7, hb7⟩
                  obtain ⟨how9, hdb9, happ⟩ := HAP.out w7 nb hnb hs7 (below_undrew hb7)
                  clear hb7 hs7 hnb
                  go_simp
                  refine hK9 _ _ ?_
                  clear hK9 K9
                  refine wpAny_ready (rs := [12]) (by kernel_rfl) (by simp) ?_
                  refine AllReady.cons rfl (fun K9 hK9 => ?_) ?_
                  · go_simp
                    refine hK9 _ _ ?_
                    clear hK9 K9
                    refine wpAny_ready (rs := [13]) (by kernel_rfl) (by simp) ?_
                    refine AllReady.cons rfl (fun K9 hK9 => ?_) ?_
                    · refine step_app1 Try.underlying88 infoLikelyS rfl (by decide) (by rfl) _ _ (by rfl) w4.heap.size (.slice (some ⟨g, 0, none⟩) bs.length cg) (bs.map (rV S)) (by rfl) how9 _ _ (rV S nb) (by rfl) (cell_new1 _ _ _) rfl hlen hdb9 ?_
                      intro v8 w8 ho8 hg8
                      obtain ⟨bs2, hbl2, hv2, hbb2, hb02, hbe2⟩ := happ v8 w8 ho8 hg8
                      refine hK9 _ _ ?_
                      clear hK9 K9
                      refine wpAny_ready (rs := [14]) (by kernel_rfl) (by simp) ?_
                      refine AllReady.cons rfl (fun K9 hK9 => ?_) ?_
                      · go_simp
                        refine hK9 _ _ ?_
                        clear hK9 K9
                        refine wpAny_done (by kernel_rfl) ?_ _
                        simp only [NoPanic]
                        go_wp2_with fail
                        go_roundw
                        case rel => exact ⟨t + 1, bs2, by omega, by go_num, hbl2, hv2, hbb2, hb02, hbe2⟩
                        case measure => simp [intOf]
                      exact AllReady.nil
                    exact AllReady.nil
                  exact AllReady.nil
                exact AllReady.nil
              exact AllReady.nil
            exact AllReady.nil
          refine AllReady.cons rfl (fun K9 hK9 => ?_) ?_
          · go_simp
            refine hK9 _ _ ?_
            clear hK9 K9
            refine wpAny_take (i := 9) (v := .pointer (some ⟨g5, K, none⟩)) rfl (by kernel_rfl) (by kernel_rfl) (by kernel_rfl) (fun _ _ _ h => h) (Or.inl ⟨by rfl, fun w' => by go_simp⟩) ?_
            refine wpAny_ready (rs := [6, 10]) (by kernel_rfl) (by simp) ?_
            refine AllReady.cons rfl (fun K9 hK9 => ?_) ?_
            · go_simp
              refine hK9 _ _ ?_
              clear hK9 K9
              refine wpAny_ready (rs := [10]) (by kernel_rfl) (by simp) ?_
              refine AllReady.cons rfl (fun K9 hK9 => ?_) ?_
              · go_simp
                refine hK9 _ _ ?_
                clear hK9 K9
                refine wpAny_ready (rs := [11]) (by kernel_rfl) (by simp) ?_
                refine AllReady.cons rfl (fun K9 hK9 => ?_) ?_
                · go_simp
                  refine (HBK.out _ (below_drewN (Below.refl wG.heap.size wG) 1)).mono ?_
                  rintro e w7 ⟨nb, rfl, hnb, hs7, hb7⟩
                  obtain ⟨how9, hdb9, happ⟩ := HAP.out w7 nb hnb hs7 (below_undrew hb7)
                  clear hb7 hs7 hnb
                  go_simp
                  refine hK9 _ _ ?_
                  clear hK9 K9
                  refine wpAny_ready (rs := [12]) (by kernel_rfl) (by simp) ?_
                  refine AllReady.cons rfl (fun K9 hK9 => ?_) ?_
                  · go_simp
                    refine hK9 _ _ ?_
                    clear hK9 K9
                    refine wpAny_ready (rs := [13]) (by kernel_rfl) (by simp) ?_
                    refine AllReady.cons rfl (fun K9 hK9 => ?_) ?_
                    · refine step_app1 Try.underlying88 infoLikelyS rfl (by decide) (by rfl) _ _ (by rfl) w4.heap.size (.slice (some ⟨g, 0, none⟩) bs.length cg) (bs.map (rV S)) (by rfl) how9 _ _ (rV S nb) (by rfl) (cell_new1 _ _ _) rfl hlen hdb9 ?_
                      intro v8 w8 ho8 hg8
                      obtain ⟨bs2, hbl2, hv2, hbb2, hb02, hbe2⟩ := happ v8 w8 ho8 hg8
                      refine hK9 _ _ ?_
                      clear hK9 K9
                      refine wpAny_ready (rs := [14]) (by kernel_rfl) (by simp) ?_
                      refine AllReady.cons rfl (fun K9 hK9 => ?_) ?_
                      · go_simp
                        refine hK9 _ _ ?_
                        clear hK9 K9
                        refine wpAny_done (by kernel_rfl) ?_ _
                        simp only [NoPanic]
                        go_wp2_with fail
                        go_roundw
                        case rel => exact ⟨t + 1, bs2, by omega, by go_num, hbl2, hv2, hbb2, hb02, hbe2⟩
                        case measure => simp [intOf]
                      exact AllReady.nil
                    exact AllReady.nil
                  exact AllReady.nil
                exact AllReady.nil
              exact AllReady.nil
            refine AllReady.cons rfl (fun K9 hK9 => ?_) ?_
            · go_simp
              refine hK9 _ _ ?_
              clear hK9 K9
              refine wpAny_ready (rs := [6]) (by kernel_rfl) (by simp) ?_
              refine AllReady.cons rfl (fun K9 hK9 => ?_) ?_
              · go_simp
                refine hK9 _ _ ?_
                clear hK9 K9
                refine wpAny_ready (rs := [11]) (by kernel_rfl) (by simp) ?_
                refine AllReady.cons rfl (fun K9 hK9 => ?_) ?_
                · go_simp
                  refine (HBK.out _ (below_drewN (Below.refl wG.heap.size wG) 1)).mono ?_
                  rintro e w7 ⟨nb, rfl, hnb, hs7, hb7⟩
                  obtain ⟨how9, hdb9, happ⟩ := HAP.out w7 nb hnb hs7 (below_undrew hb7)
                  clear hb7 hs7 hnb
                  go_simp
                  refine hK9 _ _ ?_
                  clear hK9 K9
                  refine wpAny_ready (rs := [12]) (by kernel_rfl) (by simp) ?_
                  refine AllReady.cons rfl (fun K9 hK9 => ?_) ?_
                  · go_simp
                    refine hK9 _ _ ?_
                    clear hK9 K9
                    refine wpAny_ready (rs := [13]) (by kernel_rfl) (by simp) ?_
                    refine AllReady.cons rfl (fun K9 hK9 => ?_) ?_
                    · refine step_app1 Try.underlying88 infoLikelyS rfl (by decide) (by rfl) _ _ (by rfl) w4.heap.size (.slice (some ⟨g, 0, none⟩) bs.length cg) (bs.map (rV S)) (by rfl) how9 _ _ (rV S nb) (by rfl) (cell_new1 _ _ _) rfl hlen hdb9 ?_
                      intro v8 w8 ho8 hg8
                      obtain ⟨bs2, hbl2, hv2, hbb2, hb02, hbe2⟩ := happ v8 w8 ho8 hg8
                      refine hK9 _ _ ?_
                      clear hK9 K9
                      refine wpAny_ready (rs := [14]) (by kernel_rfl) (by simp) ?_
                      refine AllReady.cons rfl (fun K9 hK9 => ?_) ?_
                      · go_simp
                        refine hK9 _ _ ?_
                        clear hK9 K9
                        refine wpAny_done (by kernel_rfl) ?_ _
                        simp only [NoPanic]
                        go_wp2_with fail
                        go_roundw
                        case rel => exact ⟨t + 1, bs2, by omega, by go_num, hbl2, hv2, hbb2, hb02, hbe2⟩
                        case measure => simp [intOf]
                      exact AllReady.nil
                    exact AllReady.nil
                  exact AllReady.nil
                exact AllReady.nil
              exact AllReady.nil
            exact AllReady.nil
          exact AllReady.nil
        · obtain rfl : t = n + M := by omega
          obtain ⟨g, cg, rfl, hgb, hgz, hown, hcell⟩ := hv.get (by omega)
          have hzG := hbe.size
          have hge : decide ((0 : Int) ≤ (n : Int) + (M : Int) - 1 - ((n + M : Nat) : Int)) = false := decide_eq_false (by omega)
          obtain ⟨N, eN⟩ : ∃ N, n + M = N := ⟨_, rfl⟩
          rw [eN] at hbl hge ⊢
          rw [hbl] at hown hbb hcell ⊢
          have HRT := Lib.hid (rowT_of hbl hown)
          have HRV := Lib.hid (Reverse_likely_c wG w4.heap.size S g (N + 1) cg _ (by omega) (by omega) (rowT_of hbl hown))
          have HEN := Lib.hid eN
          have HV := Lib.hid hv
          have HBB := Lib.hid hbb
          have HB0 := Lib.hid hb0
          have HBL := Lib.hid hbl
          have HBE := Lib.hid hbe
          clear hv hbb hb0 hbe hown hcell hbl hlt ht
          go_wp2_with fail
          refine HRV.out.mono ?_
          rintro e wR ⟨rfl, hrt, hgR⟩
          have hzR : wG.heap.size ≤ wR.heap.size := hgR.size
          have hbR : Below w4.heap.size w4 wR := HBE.out.grown hgR (by omega) fun r hr => by cases hr; exact hgb
          obtain ⟨wZ, eZ⟩ : ∃ q : World, q = wR.alloc (.cells #[] 46) := ⟨_, rfl⟩
          have bZ : Below w4.heap.size w4 wZ := by rw [eZ]; exact hbR.alloc (by omega) _
          have zZ : wZ.heap.size = wR.heap.size + 1 := by rw [eZ]; simp
          have oZ : Ow wZ wR.heap.size 46 (.slice (some ⟨wR.heap.size, 0, none⟩) 0 0) (([] : List Nat).map (Value.float .f32)) := by rw [eZ]; exact own_empty _ _ _ (Nat.le_refl _)
          have rZ : RowT wZ w4.heap.size S g (N + 1) cg fun i => bs.getD (N + 1 - 1 - i) 0 := by rw [eZ]; exact World.ownsRow.alloc hrt _
          have tZ : ∀ j, j < N + 1 → bs.getD j 0 < wR.heap.size ∧ SRow 87 wZ (bs.getD j 0) S (bwdT M ms xs n j) := fun j hj => by
            have h1 := HV.out.2 j (by have := HBL.out; omega)
            have h2 := h1.kept HRT.out (by decide) hgR
            exact ⟨Nat.lt_of_lt_of_le h1.lt hzR, by rw [eZ]; exact h2.alloc _⟩
          have c6 : wZ.cell? ⟨w2.heap.size, 0, none⟩ = some (.int .i64 (n : Int)) := (bZ.cell (p := ⟨w2.heap.size, 0, none⟩) (Nat.lt_of_lt_of_le HX6.out.lt z4)).trans ((HB4.out.cell (p := ⟨w2.heap.size, 0, none⟩) HX6.out.lt).trans HX6.out.cell)
          have c8 : wZ.cell? ⟨w2.heap.size + 1 + 1, 0, none⟩ = some (.slice (some ⟨g5, 0, none⟩) N cap5) := by
            have h1 := (bZ.cell (p := ⟨w2.heap.size + 1 + 1, 0, none⟩) (Nat.lt_of_lt_of_le HK1.out.lt z4)).trans HC84.out
            rw [HEN.out] at h1
            exact h1
          have hg5 : g5 < W.heap.size := (World.ownsRow.lt HK2.out g5 rfl).2
          have HG5 : Hid (∀ i, i < N → wZ.cell? ⟨g5, i, none⟩ = some (rV S (gs.getD i 0))) := Lib.hid fun i hi => by
            have hi2 : i < gs.length := by have := HEN.out; omega
            have hgc := HK2.out.cellAt i (by rw [List.length_map]; omega)
            rw [List.getElem?_map, List.getElem?_eq_getElem hi2, Option.map_some] at hgc
            have hgm1 : gs[i]'hi2 = gs.getD i 0 := by simp [List.getD, hi2]
            rw [hgm1] at hgc
            exact (bZ.cell (p := ⟨g5, i, none⟩) (Nat.lt_of_lt_of_le hg5 z4)).trans ((HB4.out.cell (p := ⟨g5, i, none⟩) hg5).trans hgc)
          have HGS : Hid (∀ i, i < N → gs.getD i 0 < wR.heap.size ∧ MRow M ms (partL k xs i) (decide (n ≤ i)) (fun _ _ => true) wZ (gs.getD i 0) S) := Lib.hid fun i hi => by
            have hi2 : i < n + M := by have := HEN.out; omega
            have h := (HHI.out i hi2).2
            rw [show (List.range (n + M)).getD i 0 = i by simp [List.getD, hi2], hl] at h
            exact ⟨Nat.lt_of_lt_of_le h.lt (by omega), ((h.below HB4.out h.lt).below bZ (Nat.lt_of_lt_of_le h.lt z4))⟩
          have HGB : Hid (∀ i, i < N + 1 → wZ.cell? ⟨g, i, none⟩ = some (rV S (bs.getD (N - i) 0))) := Lib.hid fun i hi => by
            have h := rZ.get hi
            rw [show N + 1 - 1 - i = N - i by omega] at h
            exact h
          have HBS := Lib.hid tZ
          have HS0 : Hid (SRow 87 wZ w4.heap.size S (oneR S)) := Lib.hid (by
            have h := (tZ 0 (by omega)).2
            rw [HB0.out] at h
            rw [← HSS.out]
            rw [← HSS.out] at h
            exact h)
          have hs0R : w4.heap.size < wR.heap.size := by have := (tZ 0 (by omega)).1; rw [HB0.out] at this; exact this
          have hKd : wZ.heap[Dd]? = some (.deferred (some [])) := by
            have h0 : Dd < W.heap.size := (Array.getElem?_eq_some_iff.1 HK.out).1
            exact (bZ.block Dd (Nat.lt_of_lt_of_le h0 z4)).trans ((HB4.out.block Dd h0).trans HK.out)
          have hDW : Dd < W.heap.size := (Array.getElem?_eq_some_iff.1 HK.out).1
          have HBZ := Lib.hid bZ
          have hbwZ : Below w.heap.size w wZ := HBW.out.trans ((HB4.out.mono hbz).trans (bZ.mono (by omega)))
          have hN44 : N ≤ 44 := by have := HEN.out; omega
          have hnN : n ≤ N := by have := HEN.out; omega
          have hP8 := HK1.out.lt
          have hgR2 : g < wR.heap.size := by omega
          have HKD := Lib.hid hKd
          have HBWZ := Lib.hid hbwZ
          have HOZ := Lib.hid oZ
          have HC8 := Lib.hid c8
          have hn40 : n ≤ 40 := by omega
          clear hrt hgR hbR bZ rZ tZ hKd hbwZ oZ hge c8
          go_upto_region 18 with (rw [← eZ]; clear eZ)
          refine wp_region_lit ?_
          iterate 2 (refine wpList_step (fun K2 hK2 => ?_); go_simp; refine hK2 _ _ ?_; clear hK2 K2)
          refine wpList_nil ?_
          go_simp
          refine (‹∀ (a : Act) (w : World), Code.wp Try.prog _ _ a w → _› _ _ ?_ : _)
          exact tailM18 w wZ M hM1 hM4 k ms hl xs n N S (w2.heap.size + 1 + 1) g5 cap5 g cg w4.heap.size wR.heap.size Dd gs bs hn40 hnN hN44 hS16 hS1 HSS HEN HNO HYES (by omega) (by omega) HBWZ.out HKD.out (by omega) (by omega) (by omega) HC8.out (by omega) HG5 HGS hgR2 HGB HBS hs0R HS0 HOZ.out _ ‹_› _ _ _ _ _ _ _ _ _ _ _ _ _ _ _ _ _ _ _ _ _ _ _ _ _ _ _ _ _ _ _ _ _ _ _ _ _ _ _ _ _ _ _ _ _ _ _ _ _ _ _ _ _ _ _ _ _ _ _ _ _ _ _ _ _ _ _ _ _ _ _ _ _ _ _ _ _ _ _ _ _ _ _ _ _ _ _ _ _ _ _ _ _ _ _ _ _ _ _ _ _ _ _ _ _ _ _ _ _ _ _ _ _ _ _ _ _ _ _ _ _ _ _ _ _ _ _ _ _ _ _ _ _ _ _ _ _ _ _ _ _ _ _ _ _ _ _ _ _ _ _ _ _ _ _ _ _ _ _ _

end Go.Proofs.Ytopeidmafalklaa


namespace Go.Proofs.Ytopeidmafalklaa
open Go.RowKit Go.Shelf

def allR (m : Int) (ms : List Int) (xs : List Nat) : List Nat := (allL m ms xs).map fun o => o.getD 0
theorem words_of : ∀ ys : List Nat, (ys.map (fl .f32)).all finB = true → (ys.map (fl .f32)).map (fun o => o.getD 0) = ys
  | [], _ => rfl
  | y :: ys, h => by
    simp only [List.map_cons, List.all_cons, Bool.and_eq_true] at h
    obtain ⟨h1, h2⟩ := h
    have h3 := words_of ys h2
    rw [List.map_cons, List.map_cons, h3]
    congr 1
    unfold fl at h1 ⊢
    split at h1
    · exact nomatch h1
    · rename_i hn
      rw [if_neg hn]
      rfl
theorem allL_fin (m : Int) (ms : List Int) (xs : List Nat) : (allL m ms xs).all finB = true := by
  unfold allL
  split
  · rename_i h
    unfold allOk at h
    rw [Bool.and_eq_true] at h
    have h2 := h.2
    cases ho : outT m.toNat ms xs (sentN m ms xs).toNat (sentN m ms xs).toNat with
    | none => rfl
    | some l => rw [ho] at h2; exact h2
  · rfl
theorem outT_length {M : Nat} {ms : List Int} {soft : List Nat} {n : Nat} : ∀ t l, outT M ms soft n t = some l → l.length = t
  | 0, l, h => by cases h; rfl
  | t + 1, l, h => by
    have h : ((outT M ms soft n t).bind fun l => (outS (sumT M ms soft n t false) (sumT M ms soft n t true)).map fun z => l ++ [z]) = some l := h
    cases h0 : outT M ms soft n t with
    | none => rw [h0] at h; exact nomatch h
    | some l0 =>
      have h3 := outT_length t l0 h0
      rw [h0] at h
      cases h1 : outS (sumT M ms soft n t false) (sumT M ms soft n t true) with
      | none => rw [h1] at h; exact nomatch h
      | some z =>
        rw [h1] at h
        cases h
        simp [h3]
theorem allR_len (m : Int) (ms : List Int) (xs : List Nat) : (allR m ms xs).length ≤ 40 := by
  unfold allR allL
  rw [List.length_map]
  split
  · rename_i h
    unfold allOk at h
    rw [Bool.and_eq_true] at h
    obtain ⟨M, n, rfl, -, -, -, -, -, hn, hsn, -, -⟩ := sent_facts h.1
    rw [hsn, Int.toNat_natCast, Int.toNat_natCast]
    cases h0 : outT M ms xs n n with
    | none => simp
    | some l => rw [Option.getD_some, outT_length n l h0]; exact hn
  · simp
def AllPostR (w : World) (m : Int) (ms : List Int) (xs : List Nat) (e : Ending) (w' : World) : Prop :=
  ∃ v, e = .returned (.tuple #[v, .bool (allOk m ms xs)]) ∧ Ow w' w.heap.size 46 v ((allR m ms xs).map (Value.float .f32)) ∧ Below w.heap.size w w'
theorem allPostR_of {w w' : World} {m : Int} {ms : List Int} {xs : List Nat} {e : Ending} (h : AllPost w m ms xs e w') : AllPostR w m ms xs e w' := by
  obtain ⟨v, ys, he, hy, ho, hb⟩ := h
  refine ⟨v, he, ?_, hb⟩
  have h1 := words_of ys (by rw [hy]; exact allL_fin m ms xs)
  unfold allR
  rw [← hy, h1]
  exact ho
theorem impl_AllWays_r (w : World) (m : Int) (A : Option Addr) (k cap : Nat) (ms : List Int) (hl : ms.length = k) (hk : k ≤ 1048576) (hx : Sl w w.heap.size A (ms.map (Value.int .i64)))
    (A2 : Option Addr) (n2 cap2 : Nat) (xs : List Nat) (hl2 : xs.length = n2) (hn2 : n2 ≤ 1048576) (hy : Sl w w.heap.size A2 (xs.map (Value.float .f32))) (hA : RowA A2 n2 cap2) :
    Calls Try.prog 9 #[.agg #[.int .i64 m, .slice A k cap], .slice A2 n2 cap2] w (AllPostR w m ms xs) :=
  (impl_AllWays_c w m A k cap ms hl hk hx A2 n2 cap2 xs hl2 hn2 hy hA).mono fun _ _ h => allPostR_of h
theorem spec_AllWays_r (w : World) (m : Int) (A : Option Addr) (k cap : Nat) (ms : List Int) (hl : ms.length = k) (hk : k ≤ 1048576) (hx : Sl w w.heap.size A (ms.map (Value.int .i64)))
    (A2 : Option Addr) (n2 cap2 : Nat) (xs : List Nat) (hl2 : xs.length = n2) (hn2 : n2 ≤ 1048576) (hy : Sl w w.heap.size A2 (xs.map (Value.float .f32))) (hA : RowA A2 n2 cap2) :
    Calls Try.prog 6 #[.agg #[.int .i64 m, .slice A k cap], .slice A2 n2 cap2] w (AllPostR w m ms xs) :=
  (spec_AllWays_c w m A k cap ms hl hk hx A2 n2 cap2 xs hl2 hn2 hy hA).mono fun _ _ h => allPostR_of h

end Go.Proofs.Ytopeidmafalklaa
