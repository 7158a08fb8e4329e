/-
  Contract: all ways, of the program: what stands behind the moves of all places.
  Conditions: as each theorem says.
-/
import Derived.Test.YtopeidmafalklaaYN
import Derived.Test.YtopeidmafalklaaRG
import Derived.Deep.RegionHeld3
import Derived.Deep.Cut
namespace Go.Proofs.Ytopeidmafalklaa
open Go.RowKit Go.Shelf

theorem far2 {w : World} {b o1 o2 c o : Nat} {u v x : Value} (h : w.cell? ⟨c, o, none⟩ = some x) (hn : b ≠ c) : ((w.setCell ⟨b, o1, none⟩ u).setCell ⟨b, o2, none⟩ v).cell? ⟨c, o, none⟩ = some x :=
  (World.cell?_setCell_far _ _ _ _ hn).trans ((World.cell?_setCell_far _ _ _ _ hn).trans h)
theorem cell_alloc_lt {w : World} {o : Go.Obj} {b k : Nat} (h : b < w.heap.size) : (w.alloc o).cell? ⟨b, k, none⟩ = w.cell? ⟨b, k, none⟩ := ((Below.refl w.heap.size w).alloc (Nat.le_refl _) o).cell (p := ⟨b, k, none⟩) h
/-- nothing is added where the sum's side or the table's is not there -/
theorem sumJ_none {M : Nat} {ms : List Int} {part : List Nat} {a b : List St} {s : Nat} {c : Bool} (h : plusS (a.getD s none) (halfO ms part s c) = none ∨ b.getD (toS M s c) none = none) : sumJ M ms part a b s (bN c + 1) = sumJ M ms part a b s (bN c) := by
  rcases h with h | h
  · have h1 : a.getD s none = none := by
      cases hq : a.getD s none with
      | none => rfl
      | some q => rw [hq] at h; exact nomatch h
    rw [sumJ_step]
    unfold sumE
    rw [h1, sumX_none1, set_same]
  · exact sumJ_same h
theorem sumE_yes {M : Nat} {ms : List Int} {part : List Nat} {a b : List St} {s : Nat} {c : Bool} {q : Option Nat} (h : b.getD (toS M s c) none = some q) (u : St) : sumE M ms part a b s c u = joinS u (plusS (plusS (a.getD s none) (halfO ms part s c)) q) := by
  unfold sumE
  rw [h]
  cases a.getD s none <;> cases u <;> rfl

/-- what stands behind a region, within its own row -/
def inM (n : Nat) : Code → Option Code
  | .seq (.region k _ _) b => if k == n then some b else inM n b
  | .seq a b => match inM n a with
    | some c => some c
    | none => inM n b
  | _ => none
/-- what stands behind the row of a region -/
def behM (n : Nat) : Code → Option Code
  | .seq (.seq (.region k x y) c) b => if k == n then some b else (match behM n (.seq (.region k x y) c) with
    | some d => some d
    | none => behM n b)
  | .seq a b => match behM n a with
    | some c => some c
    | none => behM n b
  | _ => none
noncomputable def blkM18 : Code := ((Try.f9.body.bind (inM 18)).getD .skip)
noncomputable def behM18 : Code := ((Try.f9.body.bind (behM 18)).getD .skip)


set_option maxRecDepth 1000000 in
set_option maxHeartbeats 8000000 in
theorem tailM18 (w W : World) (M : Nat) (_hM1 : 1 ≤ M) (hM4 : M ≤ 4) (k : Nat) (ms : List Int) (hl : ms.length = k) (xs : List Nat) (n N S P8 g5 cap5 gb cb s0 B0 Dd : Nat) (gs bs : List Nat) (hn : n ≤ 40) (hnN : n ≤ N) (hN44 : N ≤ 44) (hS16 : S ≤ 16) (hS1 : 1 ≤ S)
    (HSS : Hid (2 ^ M = S)) (HN : Hid (n + M = N)) (HNO : Hid (outT M ms xs n n = none → allOk (M : Int) ms xs = false)) (HYES : Hid (∀ l, outT M ms xs n n = some l → allOk (M : Int) ms xs = l.all finB ∧ (l.all finB = true → allL (M : Int) ms xs = l)))
    (hwB : w.heap.size ≤ B0) (hBW : B0 ≤ W.heap.size) (hbw : Below w.heap.size w W) (hKd : W.heap[Dd]? = some (.deferred (some []))) (hwD : w.heap.size ≤ Dd) (hDB : Dd < B0)
    (hP8 : P8 < B0) (c8 : W.cell? ⟨P8, 0, none⟩ = some (.slice (some ⟨g5, 0, none⟩) N cap5)) (hg5 : g5 < B0) (HG5 : Hid (∀ i, i < N → W.cell? ⟨g5, i, none⟩ = some (rV S (gs.getD i 0)))) (HGS : Hid (∀ i, i < N → gs.getD i 0 < B0 ∧ MRow M ms (partL k xs i) (decide (n ≤ i)) (fun _ _ => true) W (gs.getD i 0) S))
    (hgb : gb < B0) (HGB : Hid (∀ i, i < N + 1 → W.cell? ⟨gb, i, none⟩ = some (rV S (bs.getD (N - i) 0)))) (HBS : Hid (∀ j, j < N + 1 → bs.getD j 0 < B0 ∧ SRow 87 W (bs.getD j 0) S (bwdT M ms xs n j)))
    (_hs0 : s0 < B0) (HS0 : Hid (SRow 87 W s0 S (oneR S))) (hown0 : Ow W B0 46 (.slice (some ⟨B0, 0, none⟩) 0 0) (([] : List Nat).map (Value.float .f32)))
    (K0 : Act → World → Prop) (hK0 : ∀ a w', Code.wp Try.prog behM18 (bodyPostM Fence.wide 3 Try.prog Try.f9 (AllPost w (M : Int) ms xs)) a w' → K0 a w')
    (u0 u1 u2 u3 u4 u5 u6 u7 u9 u10 u12 u15 u16 u17 u18 u19 u20 u21 u22 u23 u24 u25 u26 u27 u28 u29 u30 u31 u32 u33 u34 u35 u36 u37 u38 u39 u40 u41 u42 u43 u44 u45 u46 u47 u48 u49 u50 u51 u52 u53 u54 u55 u56 u57 u58 u59 u60 u61 u62 u63 u64 u65 u66 u67 u68 u69 u70 u71 u72 u73 u74 u75 u76 u77 u78 u79 u80 u83 u84 u85 u86 u87 u88 u89 u90 u91 u92 u93 u94 u95 u96 u97 u98 u99 u100 u101 u102 u103 u104 u105 u106 u107 u108 u109 u110 u111 u112 u113 u114 u115 u116 u117 u118 u119 u120 u121 u122 u123 u124 u125 u126 u127 u128 u129 u130 u131 u132 u133 u134 u135 u136 u137 u138 u139 u140 u141 u142 u143 u144 u145 u146 u147 u148 u149 u150 u151 u152 u153 u154 u155 u156 u157 u158 u159 u160 u161 u162 u163 u164 u165 : Value) :
    Code.wp Try.prog blkM18 (Exit.then K0 (bodyPostM Fence.wide 3 Try.prog Try.f9 (AllPost w (M : Int) ms xs))) ⟨#[u0, u1, u2, u3, u4, u5, u6, u7, .pointer (some ⟨P8, 0, none⟩), u9, u10, .slice (some ⟨gb, 0, none⟩) (N + 1) cb, u12, .slice (some ⟨B0, 0, none⟩) 0 0, .slice (some ⟨s0, 0, none⟩) S S, u15, u16, u17, u18, u19, u20, u21, u22, u23, u24, u25, u26, u27, u28, u29, u30, u31, u32, u33, u34, u35, u36, u37, u38, u39, u40, u41, u42, u43, u44, u45, u46, u47, u48, u49, u50, u51, u52, u53, u54, u55, u56, u57, u58, u59, u60, u61, u62, u63, u64, u65, u66, u67, u68, u69, u70, u71, u72, u73, u74, u75, u76, u77, u78, u79, u80, .int .i64 (n : Int), .int .i64 0, u83, u84, u85, u86, u87, u88, u89, u90, u91, u92, u93, u94, u95, u96, u97, u98, u99, u100, u101, u102, u103, u104, u105, u106, u107, u108, u109, u110, u111, u112, u113, u114, u115, u116, u117, u118, u119, u120, u121, u122, u123, u124, u125, u126, u127, u128, u129, u130, u131, u132, u133, u134, u135, u136, u137, u138, u139, u140, u141, u142, u143, u144, u145, u146, u147, u148, u149, u150, u151, u152, u153, u154, u155, u156, u157, u158, u159, u160, u161, u162, u163, u164, u165], [{ target := .collected Dd, args := #[] }]⟩ W := by
  obtain ⟨c0, hc0⟩ : ∃ c, behM18 = c := ⟨_, rfl⟩
  rw [hc0] at hK0
  conv at hc0 => lhs; whnf
  subst hc0
  have HKD := Lib.hid hKd
  have HC8 := Lib.hid c8
  have HOW0 := Lib.hid hown0
  clear hKd c8 hown0
  conv => arg 2; whnf
  go_wp2
  go_loopw [13, 14, 82] (fun v a i wr => ∃ t : Nat, t ≤ n ∧ i = .int .i64 t ∧ (∃ ba, a = .slice (some ⟨ba, 0, none⟩) S S ∧ SRow 87 wr ba S (fwdT M ms xs n t)) ∧ (∃ (ys : List Nat) (l : List (Option Nat)), outT M ms xs n t = some l ∧ ys.map (fl .f32) = l ∧ ys.length = t ∧ Ow wr B0 46 v (ys.map (Value.float .f32))) ∧ Below B0 W wr) (fun _ _ i _ => n - (intOf i).toNat)
  case atStart =>
    refine ⟨0, Nat.zero_le _, rfl, ⟨s0, rfl, ?_⟩, ⟨[], [], rfl, rfl, rfl, HOW0.out⟩, (Below.refl W.heap.size W).mono hBW⟩
    show SRow _ _ _ _ (oneR (2 ^ M))
    rw [HSS.out]
    exact HS0.out
  case round =>
    obtain ⟨t, ht, rfl, ⟨ba, rfl, hba⟩, ⟨ys, l, hout, hys, hyl, hown⟩, hbB⟩ := hrel
    obtain ⟨wG, rfl⟩ : ∃ q : World, q = wr := ⟨_, rfl⟩
    have hzG := hbB.size
    have HOUT := Lib.hid hout
    have HYS := Lib.hid hys
    have HYL := Lib.hid hyl
    have HOWN := Lib.hid hown
    have HBA := Lib.hid hba
    have hbaz := hba.lt
    clear hout hys hyl hown hba
    by_cases hlt : t < n
    · have hltd : decide ((t : Int) < (n : Int)) = true := decide_eq_true (by omega)
      have c8 := (hbB.cell (p := ⟨P8, 0, none⟩) hP8).trans HC8.out
      have c5 := (hbB.cell (p := ⟨g5, t, none⟩) hg5).trans (HG5.out t (by omega))
      obtain ⟨hgz, hgm⟩ := HGS.out t (by omega)
      obtain ⟨gm, egm⟩ : ∃ b, gs.getD t 0 = b := ⟨_, rfl⟩
      rw [egm] at c5 hgz hgm
      obtain ⟨hbz, hbs⟩ := HBS.out (N - (t + 1)) (by omega)
      have hcb := HGB.out (t + 1) (by omega)
      obtain ⟨b1, eb1⟩ : ∃ b, bs.getD (N - (t + 1)) 0 = b := ⟨_, rfl⟩
      rw [eb1] at hbz hbs hcb
      obtain ⟨Ta, eTa⟩ : ∃ T, fwdT M ms xs n t = T := ⟨_, rfl⟩
      obtain ⟨Tb, eTb⟩ : ∃ T, bwdT M ms xs n (N - (t + 1)) = T := ⟨_, rfl⟩
      obtain ⟨pt, ept⟩ : ∃ pt, partL k xs t = pt := ⟨_, rfl⟩
      have hla : decide (n ≤ t) = false := decide_eq_false (by omega)
      rw [eTa] at HBA
      rw [eTb] at hbs
      rw [ept, hla] at hgm
      have hsum : ∀ c, sumT M ms xs n t c = sumR M ms pt Ta Tb c S := fun c => by
        unfold sumT
        rw [HN.out, eTa, eTb, hl, ept, HSS.out]
      have htab : fwdT M ms xs n (t + 1) = fwdR M ms pt false Ta S := by rw [← HSS.out, ← ept, ← hla, ← eTa, ← hl]; rfl
      have HSUM := Lib.hid hsum
      have HTAB := Lib.hid htab
      have HGM := Lib.hid (hgm.below hbB hgz)
      have HTB := Lib.hid (hbs.below hbB hbz)
      have HCB := Lib.hid ((hbB.cell (p := ⟨gb, t + 1, none⟩) hgb).trans hcb)
      have htN : (t : Int) < (N : Int) := by omega
      have htN1 : (t : Int) + 1 < (N : Int) + 1 := by omega
      have hwt : IntKind.i64.wrap ((t : Int) + 1) = (t : Int) + 1 := IntWalk.i64_in _ (by omega)
      have hwn : ((t : Int) + 1).toNat = t + 1 := by omega
      have hwp : (0 : Int) ≤ (t : Int) + 1 := by omega
      unfold rV at c5
      obtain ⟨wH, eH⟩ : ∃ q : World, q = wG.alloc (.cells #[.bool false, .float .f32 0, .bool false, .float .f32 0] 91) := ⟨_, rfl⟩
      have bGH : Below wG.heap.size wG wH := by rw [eH]; exact (Below.refl _ _).alloc (Nat.le_refl _) _
      have hP8G : P8 < wG.heap.size := by omega
      have hg5G : g5 < wG.heap.size := by omega
      have hbaG : ba < wG.heap.size := hbaz
      have c8 := (bGH.cell (p := ⟨P8, 0, none⟩) hP8G).trans c8
      have c5 := (bGH.cell (p := ⟨g5, t, none⟩) hg5G).trans c5
      have R2 : SRow 91 wH wG.heap.size 2 (noneR 2) := by
        rw [eH]
        refine ⟨⟨_, Obj.new _ _ _, rfl, fun s hs => ?_⟩, rfl⟩
        rcases (show s = 0 ∨ s = 1 by omega) with rfl | rfl
        · exact ⟨false, 0, rfl, rfl, rfl⟩
        · exact ⟨false, 0, rfl, rfl, rfl⟩
      have HR2 := Lib.hid R2
      have hmz : gm < wG.heap.size := by omega
      have hb1G : b1 < wG.heap.size := by omega
      have hgbG : gb < wG.heap.size := by omega
      have hbBH : Below B0 W wH := hbB.trans (bGH.mono (by omega))
      have hzH := bGH.size
      clear R2 ept hsum htab hbs eTa eTb eb1 egm hgm hcb hla
      go_upto_region 22 with fail
      rw [← eH]
      clear eH
      go_wp2
      go_loopw [91] (fun i wr => ∃ s : Nat, s ≤ S ∧ i = .int .i64 s ∧ SRow 91 wr wG.heap.size 2 (sumJ M ms pt Ta Tb s 0) ∧ Below wG.heap.size wH wr) (fun i _ => S - (intOf i).toNat)
      case atStart => exact ⟨0, Nat.zero_le _, rfl, HR2.out, (Below.refl wH.heap.size wH).mono hzH⟩
      case round =>
        obtain ⟨s, hs, rfl, hr0, hb⟩ := hrel
        obtain ⟨wC, rfl⟩ : ∃ q : World, q = wr := ⟨_, rfl⟩
        have HR0 := Lib.hid hr0
        have HB0 := Lib.hid hb
        have hbGC : Below wG.heap.size wG wC := bGH.trans hb
        clear hr0 hb
        by_cases hlt2 : s < S
        · have hmC := HGM.out.below hbGC hmz
          obtain ⟨x0, h1, to1, x1, c0, c1, c2, hx0, c3, c4, c5', hh1, hto1⟩ := hmC.yes hlt2
          obtain rfl : h1 = true := hh1
          obtain ⟨rfl, hx1⟩ := hto1 rfl
          obtain ⟨f2, y2, g0, g1, hg⟩ := HBA.out.cells hlt2
          have HTS := Lib.hid hg.symm
          have HG0 := Lib.hid g0
          have HG1 := Lib.hid g1
          have HX0 := Lib.hid hx0
          have HX1 := Lib.hid hx1
          clear hmC hto1 hg g0 g1 hx0 hx1
          go_wp2
          go_loopw [97] (fun i wr => ∃ j : Nat, j ≤ 2 ∧ i = .int .i64 j ∧ SRow 91 wr wG.heap.size 2 (sumJ M ms pt Ta Tb s j) ∧ Below wG.heap.size wH wr) (fun i _ => 2 - (intOf i).toNat)
          case atStart => exact ⟨0, by omega, rfl, HR0.out.alloc _, HB0.out.alloc (by have := HB0.out.size; omega) _⟩
          case round =>
            clear HR0 HB0 c0 c1 c2 c3 c4 c5' hbGC
            obtain ⟨j, hj, rfl, hr0, hbE⟩ := hrel
            obtain ⟨wE, rfl⟩ : ∃ q : World, q = wr := ⟨_, rfl⟩
            have HR := Lib.hid hr0
            have hbGE : Below wG.heap.size wG wE := bGH.trans hbE
            clear hr0
            rcases (show j = 0 ∨ j = 1 ∨ j = 2 by omega) with rfl | rfl | rfl
            · obtain ⟨to, eto⟩ : ∃ to, toS M s false = to := ⟨_, rfl⟩
              have hto : to < S := by rw [← eto, ← HSS.out]; exact toS_lt false
              rw [eto]
              obtain ⟨wB, eB⟩ : ∃ q : World, q = wE.alloc (.cells #[.bool true, .int .i64 (to : Int), .float .f32 x0] 93) := ⟨_, rfl⟩
              have oB : Obj wB wE.heap.size 93 #[.bool true, .int .i64 (to : Int), .float .f32 x0] := by rw [eB]; exact Obj.new _ _ _
              have bB : Below wG.heap.size wH wB := by rw [eB]; exact hbE.alloc (by have := hbE.size; omega) _
              have bGB : Below wG.heap.size wG wB := bGH.trans bB
              have rB : SRow 91 wB wG.heap.size 2 (sumJ M ms pt Ta Tb s 0) := by rw [eB]; exact HR.out.alloc _
              have tB : SRow 87 wB b1 S Tb := HTB.out.below bGB hb1G
              obtain ⟨f3, y3, t0, t1, hg3⟩ := tB.cells hto
              have p1 : wB.cell? ⟨wE.heap.size, 1, none⟩ = some (.int .i64 (to : Int)) := oB.cell 1
              have p2 : wB.cell? ⟨gb, t + 1, none⟩ = some (.slice (some ⟨b1, 0, none⟩) S S) := (bGB.cell (p := ⟨gb, t + 1, none⟩) hgbG).trans HCB.out
              have HTO := Lib.hid eto
              clear eto
              go_wp2_with (rw [← eB]; clear eB)
              go_region_held3 (fun w' => w'.cell? ⟨wE.heap.size, 1, none⟩ = some (.int .i64 (to : Int)) ∧ w'.cell? ⟨gb, t + 1, none⟩ = some (.slice (some ⟨b1, 0, none⟩) S S) ∧ w'.cell? ⟨b1, to * 2, none⟩ = some (.bool f3) ∧ w'.cell? ⟨b1, to * 2 + 1, none⟩ = some (.float .f32 y3))
                (first | exact ⟨p1, p2, t0, t1⟩ | go_keep)
                (fail)
              obtain ⟨wK, eK⟩ : ∃ q : World, q = (wB.alloc (.cells #[.bool f3, .float .f32 y3] 87)).drew := ⟨_, rfl⟩
              have bBK : Below wB.heap.size wB wK := by rw [eK]; exact below_drewN ((Below.refl wB.heap.size wB).alloc (Nat.le_refl _) _) 1
              have oT : Obj wK wB.heap.size 87 #[.bool f3, .float .f32 y3] := by rw [eK]; exact Obj.new _ _ _
              have hzB := bGB.size
              have hzBK := bBK.size
              have hKz : wB.heap.size < wK.heap.size := oT.lt
              have hEB : wE.heap.size < wB.heap.size := oB.lt
              have bGK : Below wG.heap.size wG wK := bGB.trans (bBK.mono hzB)
              have k0 := (bGK.cell (p := ⟨ba, s * 2, none⟩) hbaG).trans HG0.out
              have k1 := (bGK.cell (p := ⟨ba, s * 2 + 1, none⟩) hbaG).trans HG1.out
              have k2 : wK.cell? ⟨wE.heap.size, 2, none⟩ = some (.float .f32 x0) := (bBK.cell (p := ⟨wE.heap.size, 2, none⟩) hEB).trans (oB.cell 2)
              have hEK : wE.heap.size < wK.heap.size := by omega
              have hbaK : ba < wK.heap.size := by omega
              have hsS : (s : Int) < (S : Int) := by omega
              have HRB := Lib.hid rB
              have HBGK := Lib.hid bGK
              have HBBK := Lib.hid bBK
              have HBHK := Lib.hid (bB.trans (bBK.mono hzB))
              have HOT := Lib.hid oT
              have HT3 := Lib.hid hg3
              clear rB tB bGK bBK oT oB bB bGB t0 t1 p1 p2 hg3
              rw [← eK]
              clear eK
              go_wp2_with fail
              go_region_held3 (fun w' => w'.cell? ⟨ba, s * 2, none⟩ = some (.bool f2) ∧ w'.cell? ⟨ba, s * 2 + 1, none⟩ = some (.float .f32 y2) ∧ w'.cell? ⟨wE.heap.size, 2, none⟩ = some (.float .f32 x0))
                (first | exact ⟨n0, n1, n2⟩ | exact ⟨far2 n0 (by omega), far2 n1 (by omega), far2 n2 (by omega)⟩ | exact ⟨far2 ((cell_alloc_lt hba3).trans n0) (by omega), far2 ((cell_alloc_lt hba3).trans n1) (by omega), far2 ((cell_alloc_lt hE3).trans n2) (by omega)⟩ | exact ⟨(cell_alloc_lt hba3).trans n0, (cell_alloc_lt hba3).trans n1, (cell_alloc_lt hE3).trans n2⟩ | exact ⟨k0, k1, k2⟩ | exact ⟨(cell_alloc_lt hbaK).trans k0, (cell_alloc_lt hbaK).trans k1, (cell_alloc_lt hEK).trans k2⟩ | fail)
                (first
                  | (go_at_call 48; refine (impl_plus_c _ _ _ _).mono ?_; rintro e w3 ⟨k3, z3, rfl, hkz, b3⟩; have b3 := below_undrew b3; have hz3 : wK.heap.size ≤ w3.heap.size := Nat.le_trans (by simp) b3.size; have hba3 : ba < w3.heap.size := Nat.lt_of_lt_of_le hbaK hz3; have hE3 : wE.heap.size < w3.heap.size := Nat.lt_of_lt_of_le hEK hz3; have n0 := (b3.cell (p := ⟨ba, s * 2, none⟩) (by simp; omega)).trans ((cell_alloc_lt hbaK).trans k0); have n1 := (b3.cell (p := ⟨ba, s * 2 + 1, none⟩) (by simp; omega)).trans ((cell_alloc_lt hbaK).trans k1); have n2 := (b3.cell (p := ⟨wE.heap.size, 2, none⟩) (by simp; omega)).trans ((cell_alloc_lt hEK).trans k2); have oP : Obj w3 wK.heap.size 87 #[.bool false, .float .f32 0] := Obj.below (Obj.new wK _ _) b3 (by simp); have p0 : w3.cell? ⟨wK.heap.size, 0, none⟩ = some (.bool false) := oP.cell 0; have p1 : w3.cell? ⟨wK.heap.size, 1, none⟩ = some (.float .f32 0) := oP.cell 1; have p2 := oP.frozen 0; have p3 := oP.frozen 1)
                  | (go_at_call 48; refine (impl_plus_c _ _ _ _).mono ?_; rintro e w3 ⟨k3, z3, rfl, hkz, b3⟩; have b3 := below_undrew b3; have hz3 : wK.heap.size ≤ w3.heap.size := Nat.le_trans (by simp) b3.size; have hba3 : ba < w3.heap.size := Nat.lt_of_lt_of_le hbaK hz3; have hE3 : wE.heap.size < w3.heap.size := Nat.lt_of_lt_of_le hEK hz3; have n0 := (b3.cell (p := ⟨ba, s * 2, none⟩) (by simp; omega)).trans (k0); have n1 := (b3.cell (p := ⟨ba, s * 2 + 1, none⟩) (by simp; omega)).trans (k1); have n2 := (b3.cell (p := ⟨wE.heap.size, 2, none⟩) (by simp; omega)).trans (k2))
                  | fail)
              · obtain ⟨wF, eF⟩ : ∃ q : World, q = w3.alloc (.cells #[.bool k3, .float .f32 z3] 87) := ⟨_, rfl⟩
                obtain ⟨p22, ep⟩ : ∃ p : Nat, p = w3.heap.size := ⟨_, rfl⟩
                have oF : Obj wF p22 87 #[.bool k3, .float .f32 z3] := by rw [eF, ep]; exact Obj.new _ _ _
                have bKF : Below wK.heap.size wK wF := by rw [eF]; exact b3.alloc hz3 _
                rw [← eF, ← ep]
                clear n0 n1 n2 b3 eF ep
                clear k0 k1 k2
                rename_i _hHeld
                clear _hHeld
                have bGF : Below wG.heap.size wG wF := HBGK.out.trans (bKF.mono HBGK.out.size)
                have bHF : Below wG.heap.size wH wF := HBHK.out.trans (bKF.mono HBGK.out.size)
                have rF : SRow 91 wF wG.heap.size 2 (sumJ M ms pt Ta Tb s 0) := HRB.out.below (HBBK.out.trans (bKF.mono hzBK)) HRB.out.lt
                have oTF : Obj wF wB.heap.size 87 #[.bool f3, .float .f32 y3] := HOT.out.below bKF hKz
                have hsa : plusS (Ta.getD s none) (halfO ms pt s false) = stO k3 z3 := by rw [HTS.out, ← HX0.out]; exact hkz.symm
                have hsb : Tb.getD (toS M s false) none = stO f3 y3 := by rw [HTO.out]; exact HT3.out.symm
                have v0 : wF.cell? ⟨p22, 0, none⟩ = some (.bool k3) := oF.cell 0
                have v1 : wF.cell? ⟨p22, 1, none⟩ = some (.float .f32 z3) := oF.cell 1
                have v2 : wF.cell? ⟨wB.heap.size, 0, none⟩ = some (.bool f3) := oTF.cell 0
                have v3 : wF.cell? ⟨wB.heap.size, 1, none⟩ = some (.float .f32 y3) := oTF.cell 1
                have HSA := Lib.hid hsa
                have HSB := Lib.hid hsb
                have HRF := Lib.hid rF
                have HBHF := Lib.hid bHF
                have HOF := Lib.hid oF
                have HOTF := Lib.hid oTF
                clear hsa hsb rF bHF oF oTF hkz
                cases k3
                · have e9 : sumJ M ms pt Ta Tb s 1 = sumJ M ms pt Ta Tb s 0 := sumJ_none (c := false) (.inl (HSA.out.trans rfl))
                  have HE9 := Lib.hid e9
                  clear e9
                  go_wp2
                  go_roundw
                  case rel => exact ⟨1, by omega, by go_num, by rw [HE9.out]; exact HRF.out, HBHF.out⟩
                  case measure => simp [intOf]
                cases f3
                · have e9 : sumJ M ms pt Ta Tb s 1 = sumJ M ms pt Ta Tb s 0 := sumJ_none (c := false) (.inr (HSB.out.trans rfl))
                  have HE9 := Lib.hid e9
                  clear e9
                  go_wp2
                  go_roundw
                  case rel => exact ⟨1, by omega, by go_num, by rw [HE9.out]; exact HRF.out, HBHF.out⟩
                  case measure => simp [intOf]
                obtain ⟨f4, y4, d0, d1, hd⟩ := HRF.out.cells (s := 0) (by omega)
                have HLD : Hid (∀ W, Below wF.heap.size wF W → W.cell? ⟨p22, 0, none⟩ = some (.bool true) ∧ W.cell? ⟨p22, 1, none⟩ = some (.float .f32 z3) ∧ W.cell? ⟨wB.heap.size, 1, none⟩ = some (.float .f32 y3) ∧ W.cell? ⟨wG.heap.size, 0, none⟩ = some (.bool f4) ∧ W.cell? ⟨wG.heap.size, 1, none⟩ = some (.float .f32 y4)) :=
                  Lib.hid fun W hW => ⟨((HOF.out.below hW HOF.out.lt).cell 0).trans rfl, ((HOF.out.below hW HOF.out.lt).cell 1).trans rfl, ((HOTF.out.below hW HOTF.out.lt).cell 1).trans rfl, (hW.cell (p := ⟨wG.heap.size, 0, none⟩) HRF.out.lt).trans d0, (hW.cell (p := ⟨wG.heap.size, 1, none⟩) HRF.out.lt).trans d1⟩
                have HD := Lib.hid hd
                clear d0 d1 hd
                go_wp2_with fail
                refine wp_region_B RvJ 10 (D := wF.heap.size) (w0 := wF) (by kernel_rfl) (by kernel_rfl) (Below.refl _ _) ?_
                simp only [List.take_succ_cons, List.take_zero, List.drop_succ_cons, List.drop_zero]
                iterate 7 (refine wpRel_step (fun K hK => ?_); go_simp; intro W hW; obtain ⟨q0, q1, q2, q3, q4⟩ := HLD.out W hW; (try go_simp); (first | refine ⟨hW, hK _ ?_⟩ | refine hK _ ?_); clear q0 q1 q2 q3 q4 hK K hW W)
                refine wpRel_step (fun K hK => ?_)
                go_simp
                intro W hW
                refine ⟨plus_B (Nat.le_refl _) hW _ _ _, fun v hv => ?_⟩
                obtain ⟨k5, z5, rfl, hv1⟩ := rv_plus hv
                refine hK _ ?_
                clear hK K hW W hv
                refine wpRel_step (fun K hK => ?_)
                go_simp
                intro W hW
                refine ⟨join_B (Nat.le_refl _) hW _ _ _ _, fun v hv => ?_⟩
                obtain ⟨k6, z6, rfl, hv2⟩ := rv_join hv
                refine hK _ ?_
                clear hK K hW W hv
                refine wpRel_step (fun K hK => ?_)
                go_simp
                intro W hW
                (first | refine ⟨hW, hK _ ?_⟩ | refine hK _ ?_)
                clear hK K hW W
                refine wpRel_nil ?_
                intro W hW
                have rW := HRF.out.below hW HRF.out.lt
                obtain ⟨f7, y7, t0, t1, _⟩ := rW.cells (s := 0) (by omega)
                have t0 : W.cell? ⟨wG.heap.size, 0, none⟩ = some (.bool f7) := t0
                have t1 : W.cell? ⟨wG.heap.size, 1, none⟩ = some (.float .f32 y7) := t1
                have u0 := rW.frz 0
                have u1 := rW.frz 1
                have HRW := Lib.hid rW
                have HV : Hid (stO k6 z6 = sumE M ms pt Ta Tb s false ((sumJ M ms pt Ta Tb s 0).getD 0 none)) := Lib.hid (by rw [sumE_yes (HSB.out.trans rfl), HSA.out, hv2, hv1, HD.out])
                have hbWW : Below wG.heap.size wH W := HBHF.out.trans (hW.mono bGF.size)
                clear rW hv1 hv2
                go_wp2
                go_roundw
                case rel =>
                  refine ⟨1, by omega, by go_num, ?_, Below.setCell (p := ⟨wG.heap.size, 1, none⟩) (Below.setCell (p := ⟨wG.heap.size, 0, none⟩) hbWW (Nat.le_refl _) _) (Nat.le_refl _) _⟩
                  have h9 := sumJ_step (M := M) (ms := ms) (part := pt) (a := Ta) (b := Tb) (s := s) false
                  have h8 := SRow.put HRW.out (to := 0) (by omega) k6 z6 _ HV.out
                  have e9 : sumJ M ms pt Ta Tb s 1 = ((sumJ M ms pt Ta Tb s 0).set 0 (sumE M ms pt Ta Tb s false ((sumJ M ms pt Ta Tb s 0).getD 0 none))) := h9
                  rw [e9]
                  exact h8
                case measure => simp [intOf]
              · obtain ⟨wF, eF⟩ : ∃ q : World, q = ((w3.setCell ⟨wK.heap.size, 0, none⟩ (.bool k3)).setCell ⟨wK.heap.size, 1, none⟩ (.float .f32 z3)) := ⟨_, rfl⟩
                obtain ⟨p22, ep⟩ : ∃ p : Nat, p = wK.heap.size := ⟨_, rfl⟩
                have oF : Obj wF p22 87 #[.bool k3, .float .f32 z3] := by rw [eF, ep]; exact (oP.set 0 _).set 1 _
                have bKF : Below wK.heap.size wK wF := by rw [eF]; exact Below.setCell (p := ⟨wK.heap.size, 1, none⟩) (Below.setCell (p := ⟨wK.heap.size, 0, none⟩) (((Below.refl wK.heap.size wK).alloc (Nat.le_refl _) _).trans (b3.mono (by simp))) (Nat.le_refl _) _) (Nat.le_refl _) _
                rw [← eF, ← ep]
                clear n0 n1 n2 b3 eF ep
                clear k0 k1 k2
                rename_i _hHeld
                clear _hHeld
                have bGF : Below wG.heap.size wG wF := HBGK.out.trans (bKF.mono HBGK.out.size)
                have bHF : Below wG.heap.size wH wF := HBHK.out.trans (bKF.mono HBGK.out.size)
                have rF : SRow 91 wF wG.heap.size 2 (sumJ M ms pt Ta Tb s 0) := HRB.out.below (HBBK.out.trans (bKF.mono hzBK)) HRB.out.lt
                have oTF : Obj wF wB.heap.size 87 #[.bool f3, .float .f32 y3] := HOT.out.below bKF hKz
                have hsa : plusS (Ta.getD s none) (halfO ms pt s false) = stO k3 z3 := by rw [HTS.out, ← HX0.out]; exact hkz.symm
                have hsb : Tb.getD (toS M s false) none = stO f3 y3 := by rw [HTO.out]; exact HT3.out.symm
                have v0 : wF.cell? ⟨p22, 0, none⟩ = some (.bool k3) := oF.cell 0
                have v1 : wF.cell? ⟨p22, 1, none⟩ = some (.float .f32 z3) := oF.cell 1
                have v2 : wF.cell? ⟨wB.heap.size, 0, none⟩ = some (.bool f3) := oTF.cell 0
                have v3 : wF.cell? ⟨wB.heap.size, 1, none⟩ = some (.float .f32 y3) := oTF.cell 1
                have HSA := Lib.hid hsa
                have HSB := Lib.hid hsb
                have HRF := Lib.hid rF
                have HBHF := Lib.hid bHF
                have HOF := Lib.hid oF
                have HOTF := Lib.hid oTF
                clear hsa hsb rF bHF oF oTF hkz
                cases k3
                · have e9 : sumJ M ms pt Ta Tb s 1 = sumJ M ms pt Ta Tb s 0 := sumJ_none (c := false) (.inl (HSA.out.trans rfl))
                  have HE9 := Lib.hid e9
                  clear e9
                  go_wp2
                  go_roundw
                  case rel => exact ⟨1, by omega, by go_num, by rw [HE9.out]; exact HRF.out, HBHF.out⟩
                  case measure => simp [intOf]
                cases f3
                · have e9 : sumJ M ms pt Ta Tb s 1 = sumJ M ms pt Ta Tb s 0 := sumJ_none (c := false) (.inr (HSB.out.trans rfl))
                  have HE9 := Lib.hid e9
                  clear e9
                  go_wp2
                  go_roundw
                  case rel => exact ⟨1, by omega, by go_num, by rw [HE9.out]; exact HRF.out, HBHF.out⟩
                  case measure => simp [intOf]
                obtain ⟨f4, y4, d0, d1, hd⟩ := HRF.out.cells (s := 0) (by omega)
                have HLD : Hid (∀ W, Below wF.heap.size wF W → W.cell? ⟨p22, 0, none⟩ = some (.bool true) ∧ W.cell? ⟨p22, 1, none⟩ = some (.float .f32 z3) ∧ W.cell? ⟨wB.heap.size, 1, none⟩ = some (.float .f32 y3) ∧ W.cell? ⟨wG.heap.size, 0, none⟩ = some (.bool f4) ∧ W.cell? ⟨wG.heap.size, 1, none⟩ = some (.float .f32 y4)) :=
                  Lib.hid fun W hW => ⟨((HOF.out.below hW HOF.out.lt).cell 0).trans rfl, ((HOF.out.below hW HOF.out.lt).cell 1).trans rfl, ((HOTF.out.below hW HOTF.out.lt).cell 1).trans rfl, (hW.cell (p := ⟨wG.heap.size, 0, none⟩) HRF.out.lt).trans d0, (hW.cell (p := ⟨wG.heap.size, 1, none⟩) HRF.out.lt).trans d1⟩
                have HD := Lib.hid hd
                clear d0 d1 hd
                go_wp2_with fail
                refine wp_region_B RvJ 10 (D := wF.heap.size) (w0 := wF) (by kernel_rfl) (by kernel_rfl) (Below.refl _ _) ?_
                simp only [List.take_succ_cons, List.take_zero, List.drop_succ_cons, List.drop_zero]
                iterate 7 (refine wpRel_step (fun K hK => ?_); go_simp; intro W hW; obtain ⟨q0, q1, q2, q3, q4⟩ := HLD.out W hW; (try go_simp); (first | refine ⟨hW, hK _ ?_⟩ | refine hK _ ?_); clear q0 q1 q2 q3 q4 hK K hW W)
                refine wpRel_step (fun K hK => ?_)
                go_simp
                intro W hW
                refine ⟨plus_B (Nat.le_refl _) hW _ _ _, fun v hv => ?_⟩
                obtain ⟨k5, z5, rfl, hv1⟩ := rv_plus hv
                refine hK _ ?_
                clear hK K hW W hv
                refine wpRel_step (fun K hK => ?_)
                go_simp
                intro W hW
                refine ⟨join_B (Nat.le_refl _) hW _ _ _ _, fun v hv => ?_⟩
                obtain ⟨k6, z6, rfl, hv2⟩ := rv_join hv
                refine hK _ ?_
                clear hK K hW W hv
                refine wpRel_step (fun K hK => ?_)
                go_simp
                intro W hW
                (first | refine ⟨hW, hK _ ?_⟩ | refine hK _ ?_)
                clear hK K hW W
                refine wpRel_nil ?_
                intro W hW
                have rW := HRF.out.below hW HRF.out.lt
                obtain ⟨f7, y7, t0, t1, _⟩ := rW.cells (s := 0) (by omega)
                have t0 : W.cell? ⟨wG.heap.size, 0, none⟩ = some (.bool f7) := t0
                have t1 : W.cell? ⟨wG.heap.size, 1, none⟩ = some (.float .f32 y7) := t1
                have u0 := rW.frz 0
                have u1 := rW.frz 1
                have HRW := Lib.hid rW
                have HV : Hid (stO k6 z6 = sumE M ms pt Ta Tb s false ((sumJ M ms pt Ta Tb s 0).getD 0 none)) := Lib.hid (by rw [sumE_yes (HSB.out.trans rfl), HSA.out, hv2, hv1, HD.out])
                have hbWW : Below wG.heap.size wH W := HBHF.out.trans (hW.mono bGF.size)
                clear rW hv1 hv2
                go_wp2
                go_roundw
                case rel =>
                  refine ⟨1, by omega, by go_num, ?_, Below.setCell (p := ⟨wG.heap.size, 1, none⟩) (Below.setCell (p := ⟨wG.heap.size, 0, none⟩) hbWW (Nat.le_refl _) _) (Nat.le_refl _) _⟩
                  have h9 := sumJ_step (M := M) (ms := ms) (part := pt) (a := Ta) (b := Tb) (s := s) false
                  have h8 := SRow.put HRW.out (to := 0) (by omega) k6 z6 _ HV.out
                  have e9 : sumJ M ms pt Ta Tb s 1 = ((sumJ M ms pt Ta Tb s 0).set 0 (sumE M ms pt Ta Tb s false ((sumJ M ms pt Ta Tb s 0).getD 0 none))) := h9
                  rw [e9]
                  exact h8
                case measure => simp [intOf]
            · obtain ⟨to, eto⟩ : ∃ to, toS M s true = to := ⟨_, rfl⟩
              have hto : to < S := by rw [← eto, ← HSS.out]; exact toS_lt true
              rw [eto]
              obtain ⟨wB, eB⟩ : ∃ q : World, q = wE.alloc (.cells #[.bool true, .int .i64 (to : Int), .float .f32 x1] 93) := ⟨_, rfl⟩
              have oB : Obj wB wE.heap.size 93 #[.bool true, .int .i64 (to : Int), .float .f32 x1] := by rw [eB]; exact Obj.new _ _ _
              have bB : Below wG.heap.size wH wB := by rw [eB]; exact hbE.alloc (by have := hbE.size; omega) _
              have bGB : Below wG.heap.size wG wB := bGH.trans bB
              have rB : SRow 91 wB wG.heap.size 2 (sumJ M ms pt Ta Tb s 1) := by rw [eB]; exact HR.out.alloc _
              have tB : SRow 87 wB b1 S Tb := HTB.out.below bGB hb1G
              obtain ⟨f3, y3, t0, t1, hg3⟩ := tB.cells hto
              have p1 : wB.cell? ⟨wE.heap.size, 1, none⟩ = some (.int .i64 (to : Int)) := oB.cell 1
              have p2 : wB.cell? ⟨gb, t + 1, none⟩ = some (.slice (some ⟨b1, 0, none⟩) S S) := (bGB.cell (p := ⟨gb, t + 1, none⟩) hgbG).trans HCB.out
              have HTO := Lib.hid eto
              clear eto
              go_wp2_with (rw [← eB]; clear eB)
              go_region_held3 (fun w' => w'.cell? ⟨wE.heap.size, 1, none⟩ = some (.int .i64 (to : Int)) ∧ w'.cell? ⟨gb, t + 1, none⟩ = some (.slice (some ⟨b1, 0, none⟩) S S) ∧ w'.cell? ⟨b1, to * 2, none⟩ = some (.bool f3) ∧ w'.cell? ⟨b1, to * 2 + 1, none⟩ = some (.float .f32 y3))
                (first | exact ⟨p1, p2, t0, t1⟩ | go_keep)
                (fail)
              obtain ⟨wK, eK⟩ : ∃ q : World, q = (wB.alloc (.cells #[.bool f3, .float .f32 y3] 87)).drew := ⟨_, rfl⟩
              have bBK : Below wB.heap.size wB wK := by rw [eK]; exact below_drewN ((Below.refl wB.heap.size wB).alloc (Nat.le_refl _) _) 1
              have oT : Obj wK wB.heap.size 87 #[.bool f3, .float .f32 y3] := by rw [eK]; exact Obj.new _ _ _
              have hzB := bGB.size
              have hzBK := bBK.size
              have hKz : wB.heap.size < wK.heap.size := oT.lt
              have hEB : wE.heap.size < wB.heap.size := oB.lt
              have bGK : Below wG.heap.size wG wK := bGB.trans (bBK.mono hzB)
              have k0 := (bGK.cell (p := ⟨ba, s * 2, none⟩) hbaG).trans HG0.out
              have k1 := (bGK.cell (p := ⟨ba, s * 2 + 1, none⟩) hbaG).trans HG1.out
              have k2 : wK.cell? ⟨wE.heap.size, 2, none⟩ = some (.float .f32 x1) := (bBK.cell (p := ⟨wE.heap.size, 2, none⟩) hEB).trans (oB.cell 2)
              have hEK : wE.heap.size < wK.heap.size := by omega
              have hbaK : ba < wK.heap.size := by omega
              have hsS : (s : Int) < (S : Int) := by omega
              have HRB := Lib.hid rB
              have HBGK := Lib.hid bGK
              have HBBK := Lib.hid bBK
              have HBHK := Lib.hid (bB.trans (bBK.mono hzB))
              have HOT := Lib.hid oT
              have HT3 := Lib.hid hg3
              clear rB tB bGK bBK oT oB bB bGB t0 t1 p1 p2 hg3
              rw [← eK]
              clear eK
              go_wp2_with fail
              go_region_held3 (fun w' => w'.cell? ⟨ba, s * 2, none⟩ = some (.bool f2) ∧ w'.cell? ⟨ba, s * 2 + 1, none⟩ = some (.float .f32 y2) ∧ w'.cell? ⟨wE.heap.size, 2, none⟩ = some (.float .f32 x1))
                (first | exact ⟨n0, n1, n2⟩ | exact ⟨far2 n0 (by omega), far2 n1 (by omega), far2 n2 (by omega)⟩ | exact ⟨far2 ((cell_alloc_lt hba3).trans n0) (by omega), far2 ((cell_alloc_lt hba3).trans n1) (by omega), far2 ((cell_alloc_lt hE3).trans n2) (by omega)⟩ | exact ⟨(cell_alloc_lt hba3).trans n0, (cell_alloc_lt hba3).trans n1, (cell_alloc_lt hE3).trans n2⟩ | exact ⟨k0, k1, k2⟩ | exact ⟨(cell_alloc_lt hbaK).trans k0, (cell_alloc_lt hbaK).trans k1, (cell_alloc_lt hEK).trans k2⟩ | fail)
                (first
                  | (go_at_call 48; refine (impl_plus_c _ _ _ _).mono ?_; rintro e w3 ⟨k3, z3, rfl, hkz, b3⟩; have b3 := below_undrew b3; have hz3 : wK.heap.size ≤ w3.heap.size := Nat.le_trans (by simp) b3.size; have hba3 : ba < w3.heap.size := Nat.lt_of_lt_of_le hbaK hz3; have hE3 : wE.heap.size < w3.heap.size := Nat.lt_of_lt_of_le hEK hz3; have n0 := (b3.cell (p := ⟨ba, s * 2, none⟩) (by simp; omega)).trans ((cell_alloc_lt hbaK).trans k0); have n1 := (b3.cell (p := ⟨ba, s * 2 + 1, none⟩) (by simp; omega)).trans ((cell_alloc_lt hbaK).trans k1); have n2 := (b3.cell (p := ⟨wE.heap.size, 2, none⟩) (by simp; omega)).trans ((cell_alloc_lt hEK).trans k2); have oP : Obj w3 wK.heap.size 87 #[.bool false, .float .f32 0] := Obj.below (Obj.new wK _ _) b3 (by simp); have p0 : w3.cell? ⟨wK.heap.size, 0, none⟩ = some (.bool false) := oP.cell 0; have p1 : w3.cell? ⟨wK.heap.size, 1, none⟩ = some (.float .f32 0) := oP.cell 1; have p2 := oP.frozen 0; have p3 := oP.frozen 1)
                  | (go_at_call 48; refine (impl_plus_c _ _ _ _).mono ?_; rintro e w3 ⟨k3, z3, rfl, hkz, b3⟩; have b3 := below_undrew b3; have hz3 : wK.heap.size ≤ w3.heap.size := Nat.le_trans (by simp) b3.size; have hba3 : ba < w3.heap.size := Nat.lt_of_lt_of_le hbaK hz3; have hE3 : wE.heap.size < w3.heap.size := Nat.lt_of_lt_of_le hEK hz3; have n0 := (b3.cell (p := ⟨ba, s * 2, none⟩) (by simp; omega)).trans (k0); have n1 := (b3.cell (p := ⟨ba, s * 2 + 1, none⟩) (by simp; omega)).trans (k1); have n2 := (b3.cell (p := ⟨wE.heap.size, 2, none⟩) (by simp; omega)).trans (k2))
                  | fail)
              · obtain ⟨wF, eF⟩ : ∃ q : World, q = w3.alloc (.cells #[.bool k3, .float .f32 z3] 87) := ⟨_, rfl⟩
                obtain ⟨p22, ep⟩ : ∃ p : Nat, p = w3.heap.size := ⟨_, rfl⟩
                have oF : Obj wF p22 87 #[.bool k3, .float .f32 z3] := by rw [eF, ep]; exact Obj.new _ _ _
                have bKF : Below wK.heap.size wK wF := by rw [eF]; exact b3.alloc hz3 _
                rw [← eF, ← ep]
                clear n0 n1 n2 b3 eF ep
                clear k0 k1 k2
                rename_i _hHeld
                clear _hHeld
                have bGF : Below wG.heap.size wG wF := HBGK.out.trans (bKF.mono HBGK.out.size)
                have bHF : Below wG.heap.size wH wF := HBHK.out.trans (bKF.mono HBGK.out.size)
                have rF : SRow 91 wF wG.heap.size 2 (sumJ M ms pt Ta Tb s 1) := HRB.out.below (HBBK.out.trans (bKF.mono hzBK)) HRB.out.lt
                have oTF : Obj wF wB.heap.size 87 #[.bool f3, .float .f32 y3] := HOT.out.below bKF hKz
                have hsa : plusS (Ta.getD s none) (halfO ms pt s true) = stO k3 z3 := by rw [HTS.out, ← HX1.out]; exact hkz.symm
                have hsb : Tb.getD (toS M s true) none = stO f3 y3 := by rw [HTO.out]; exact HT3.out.symm
                have v0 : wF.cell? ⟨p22, 0, none⟩ = some (.bool k3) := oF.cell 0
                have v1 : wF.cell? ⟨p22, 1, none⟩ = some (.float .f32 z3) := oF.cell 1
                have v2 : wF.cell? ⟨wB.heap.size, 0, none⟩ = some (.bool f3) := oTF.cell 0
                have v3 : wF.cell? ⟨wB.heap.size, 1, none⟩ = some (.float .f32 y3) := oTF.cell 1
                have HSA := Lib.hid hsa
                have HSB := Lib.hid hsb
                have HRF := Lib.hid rF
                have HBHF := Lib.hid bHF
                have HOF := Lib.hid oF
                have HOTF := Lib.hid oTF
                clear hsa hsb rF bHF oF oTF hkz
                cases k3
                · have e9 : sumJ M ms pt Ta Tb s 2 = sumJ M ms pt Ta Tb s 1 := sumJ_none (c := true) (.inl (HSA.out.trans rfl))
                  have HE9 := Lib.hid e9
                  clear e9
                  go_wp2
                  go_roundw
                  case rel => exact ⟨2, by omega, by go_num, by rw [HE9.out]; exact HRF.out, HBHF.out⟩
                  case measure => simp [intOf]
                cases f3
                · have e9 : sumJ M ms pt Ta Tb s 2 = sumJ M ms pt Ta Tb s 1 := sumJ_none (c := true) (.inr (HSB.out.trans rfl))
                  have HE9 := Lib.hid e9
                  clear e9
                  go_wp2
                  go_roundw
                  case rel => exact ⟨2, by omega, by go_num, by rw [HE9.out]; exact HRF.out, HBHF.out⟩
                  case measure => simp [intOf]
                obtain ⟨f4, y4, d0, d1, hd⟩ := HRF.out.cells (s := 1) (by omega)
                have HLD : Hid (∀ W, Below wF.heap.size wF W → W.cell? ⟨p22, 0, none⟩ = some (.bool true) ∧ W.cell? ⟨p22, 1, none⟩ = some (.float .f32 z3) ∧ W.cell? ⟨wB.heap.size, 1, none⟩ = some (.float .f32 y3) ∧ W.cell? ⟨wG.heap.size, 2, none⟩ = some (.bool f4) ∧ W.cell? ⟨wG.heap.size, 3, none⟩ = some (.float .f32 y4)) :=
                  Lib.hid fun W hW => ⟨((HOF.out.below hW HOF.out.lt).cell 0).trans rfl, ((HOF.out.below hW HOF.out.lt).cell 1).trans rfl, ((HOTF.out.below hW HOTF.out.lt).cell 1).trans rfl, (hW.cell (p := ⟨wG.heap.size, 2, none⟩) HRF.out.lt).trans d0, (hW.cell (p := ⟨wG.heap.size, 3, none⟩) HRF.out.lt).trans d1⟩
                have HD := Lib.hid hd
                clear d0 d1 hd
                go_wp2_with fail
                refine wp_region_B RvJ 10 (D := wF.heap.size) (w0 := wF) (by kernel_rfl) (by kernel_rfl) (Below.refl _ _) ?_
                simp only [List.take_succ_cons, List.take_zero, List.drop_succ_cons, List.drop_zero]
                iterate 7 (refine wpRel_step (fun K hK => ?_); go_simp; intro W hW; obtain ⟨q0, q1, q2, q3, q4⟩ := HLD.out W hW; (try go_simp); (first | refine ⟨hW, hK _ ?_⟩ | refine hK _ ?_); clear q0 q1 q2 q3 q4 hK K hW W)
                refine wpRel_step (fun K hK => ?_)
                go_simp
                intro W hW
                refine ⟨plus_B (Nat.le_refl _) hW _ _ _, fun v hv => ?_⟩
                obtain ⟨k5, z5, rfl, hv1⟩ := rv_plus hv
                refine hK _ ?_
                clear hK K hW W hv
                refine wpRel_step (fun K hK => ?_)
                go_simp
                intro W hW
                refine ⟨join_B (Nat.le_refl _) hW _ _ _ _, fun v hv => ?_⟩
                obtain ⟨k6, z6, rfl, hv2⟩ := rv_join hv
                refine hK _ ?_
                clear hK K hW W hv
                refine wpRel_step (fun K hK => ?_)
                go_simp
                intro W hW
                (first | refine ⟨hW, hK _ ?_⟩ | refine hK _ ?_)
                clear hK K hW W
                refine wpRel_nil ?_
                intro W hW
                have rW := HRF.out.below hW HRF.out.lt
                obtain ⟨f7, y7, t0, t1, _⟩ := rW.cells (s := 1) (by omega)
                have t0 : W.cell? ⟨wG.heap.size, 2, none⟩ = some (.bool f7) := t0
                have t1 : W.cell? ⟨wG.heap.size, 3, none⟩ = some (.float .f32 y7) := t1
                have u0 := rW.frz 2
                have u1 := rW.frz 3
                have HRW := Lib.hid rW
                have HV : Hid (stO k6 z6 = sumE M ms pt Ta Tb s true ((sumJ M ms pt Ta Tb s 1).getD 1 none)) := Lib.hid (by rw [sumE_yes (HSB.out.trans rfl), HSA.out, hv2, hv1, HD.out])
                have hbWW : Below wG.heap.size wH W := HBHF.out.trans (hW.mono bGF.size)
                clear rW hv1 hv2
                go_wp2
                go_roundw
                case rel =>
                  refine ⟨2, by omega, by go_num, ?_, Below.setCell (p := ⟨wG.heap.size, 3, none⟩) (Below.setCell (p := ⟨wG.heap.size, 2, none⟩) hbWW (Nat.le_refl _) _) (Nat.le_refl _) _⟩
                  have h9 := sumJ_step (M := M) (ms := ms) (part := pt) (a := Ta) (b := Tb) (s := s) true
                  have h8 := SRow.put HRW.out (to := 1) (by omega) k6 z6 _ HV.out
                  have e9 : sumJ M ms pt Ta Tb s 2 = ((sumJ M ms pt Ta Tb s 1).set 1 (sumE M ms pt Ta Tb s true ((sumJ M ms pt Ta Tb s 1).getD 1 none))) := h9
                  rw [e9]
                  exact h8
                case measure => simp [intOf]
              · obtain ⟨wF, eF⟩ : ∃ q : World, q = ((w3.setCell ⟨wK.heap.size, 0, none⟩ (.bool k3)).setCell ⟨wK.heap.size, 1, none⟩ (.float .f32 z3)) := ⟨_, rfl⟩
                obtain ⟨p22, ep⟩ : ∃ p : Nat, p = wK.heap.size := ⟨_, rfl⟩
                have oF : Obj wF p22 87 #[.bool k3, .float .f32 z3] := by rw [eF, ep]; exact (oP.set 0 _).set 1 _
                have bKF : Below wK.heap.size wK wF := by rw [eF]; exact Below.setCell (p := ⟨wK.heap.size, 1, none⟩) (Below.setCell (p := ⟨wK.heap.size, 0, none⟩) (((Below.refl wK.heap.size wK).alloc (Nat.le_refl _) _).trans (b3.mono (by simp))) (Nat.le_refl _) _) (Nat.le_refl _) _
                rw [← eF, ← ep]
                clear n0 n1 n2 b3 eF ep
                clear k0 k1 k2
                rename_i _hHeld
                clear _hHeld
                have bGF : Below wG.heap.size wG wF := HBGK.out.trans (bKF.mono HBGK.out.size)
                have bHF : Below wG.heap.size wH wF := HBHK.out.trans (bKF.mono HBGK.out.size)
                have rF : SRow 91 wF wG.heap.size 2 (sumJ M ms pt Ta Tb s 1) := HRB.out.below (HBBK.out.trans (bKF.mono hzBK)) HRB.out.lt
                have oTF : Obj wF wB.heap.size 87 #[.bool f3, .float .f32 y3] := HOT.out.below bKF hKz
                have hsa : plusS (Ta.getD s none) (halfO ms pt s true) = stO k3 z3 := by rw [HTS.out, ← HX1.out]; exact hkz.symm
                have hsb : Tb.getD (toS M s true) none = stO f3 y3 := by rw [HTO.out]; exact HT3.out.symm
                have v0 : wF.cell? ⟨p22, 0, none⟩ = some (.bool k3) := oF.cell 0
                have v1 : wF.cell? ⟨p22, 1, none⟩ = some (.float .f32 z3) := oF.cell 1
                have v2 : wF.cell? ⟨wB.heap.size, 0, none⟩ = some (.bool f3) := oTF.cell 0
                have v3 : wF.cell? ⟨wB.heap.size, 1, none⟩ = some (.float .f32 y3) := oTF.cell 1
                have HSA := Lib.hid hsa
                have HSB := Lib.hid hsb
                have HRF := Lib.hid rF
                have HBHF := Lib.hid bHF
                have HOF := Lib.hid oF
                have HOTF := Lib.hid oTF
                clear hsa hsb rF bHF oF oTF hkz
                cases k3
                · have e9 : sumJ M ms pt Ta Tb s 2 = sumJ M ms pt Ta Tb s 1 := sumJ_none (c := true) (.inl (HSA.out.trans rfl))
                  have HE9 := Lib.hid e9
                  clear e9
                  go_wp2
                  go_roundw
                  case rel => exact ⟨2, by omega, by go_num, by rw [HE9.out]; exact HRF.out, HBHF.out⟩
                  case measure => simp [intOf]
                cases f3
                · have e9 : sumJ M ms pt Ta Tb s 2 = sumJ M ms pt Ta Tb s 1 := sumJ_none (c := true) (.inr (HSB.out.trans rfl))
                  have HE9 := Lib.hid e9
                  clear e9
                  go_wp2
                  go_roundw
                  case rel => exact ⟨2, by omega, by go_num, by rw [HE9.out]; exact HRF.out, HBHF.out⟩
                  case measure => simp [intOf]
                obtain ⟨f4, y4, d0, d1, hd⟩ := HRF.out.cells (s := 1) (by omega)
                have HLD : Hid (∀ W, Below wF.heap.size wF W → W.cell? ⟨p22, 0, none⟩ = some (.bool true) ∧ W.cell? ⟨p22, 1, none⟩ = some (.float .f32 z3) ∧ W.cell? ⟨wB.heap.size, 1, none⟩ = some (.float .f32 y3) ∧ W.cell? ⟨wG.heap.size, 2, none⟩ = some (.bool f4) ∧ W.cell? ⟨wG.heap.size, 3, none⟩ = some (.float .f32 y4)) :=
                  Lib.hid fun W hW => ⟨((HOF.out.below hW HOF.out.lt).cell 0).trans rfl, ((HOF.out.below hW HOF.out.lt).cell 1).trans rfl, ((HOTF.out.below hW HOTF.out.lt).cell 1).trans rfl, (hW.cell (p := ⟨wG.heap.size, 2, none⟩) HRF.out.lt).trans d0, (hW.cell (p := ⟨wG.heap.size, 3, none⟩) HRF.out.lt).trans d1⟩
                have HD := Lib.hid hd
                clear d0 d1 hd
                go_wp2_with fail
                refine wp_region_B RvJ 10 (D := wF.heap.size) (w0 := wF) (by kernel_rfl) (by kernel_rfl) (Below.refl _ _) ?_
                simp only [List.take_succ_cons, List.take_zero, List.drop_succ_cons, List.drop_zero]
                iterate 7 (refine wpRel_step (fun K hK => ?_); go_simp; intro W hW; obtain ⟨q0, q1, q2, q3, q4⟩ := HLD.out W hW; (try go_simp); (first | refine ⟨hW, hK _ ?_⟩ | refine hK _ ?_); clear q0 q1 q2 q3 q4 hK K hW W)
                refine wpRel_step (fun K hK => ?_)
                go_simp
                intro W hW
                refine ⟨plus_B (Nat.le_refl _) hW _ _ _, fun v hv => ?_⟩
                obtain ⟨k5, z5, rfl, hv1⟩ := rv_plus hv
                refine hK _ ?_
                clear hK K hW W hv
                refine wpRel_step (fun K hK => ?_)
                go_simp
                intro W hW
                refine ⟨join_B (Nat.le_refl _) hW _ _ _ _, fun v hv => ?_⟩
                obtain ⟨k6, z6, rfl, hv2⟩ := rv_join hv
                refine hK _ ?_
                clear hK K hW W hv
                refine wpRel_step (fun K hK => ?_)
                go_simp
                intro W hW
                (first | refine ⟨hW, hK _ ?_⟩ | refine hK _ ?_)
                clear hK K hW W
                refine wpRel_nil ?_
                intro W hW
                have rW := HRF.out.below hW HRF.out.lt
                obtain ⟨f7, y7, t0, t1, _⟩ := rW.cells (s := 1) (by omega)
                have t0 : W.cell? ⟨wG.heap.size, 2, none⟩ = some (.bool f7) := t0
                have t1 : W.cell? ⟨wG.heap.size, 3, none⟩ = some (.float .f32 y7) := t1
                have u0 := rW.frz 2
                have u1 := rW.frz 3
                have HRW := Lib.hid rW
                have HV : Hid (stO k6 z6 = sumE M ms pt Ta Tb s true ((sumJ M ms pt Ta Tb s 1).getD 1 none)) := Lib.hid (by rw [sumE_yes (HSB.out.trans rfl), HSA.out, hv2, hv1, HD.out])
                have hbWW : Below wG.heap.size wH W := HBHF.out.trans (hW.mono bGF.size)
                clear rW hv1 hv2
                go_wp2
                go_roundw
                case rel =>
                  refine ⟨2, by omega, by go_num, ?_, Below.setCell (p := ⟨wG.heap.size, 3, none⟩) (Below.setCell (p := ⟨wG.heap.size, 2, none⟩) hbWW (Nat.le_refl _) _) (Nat.le_refl _) _⟩
                  have h9 := sumJ_step (M := M) (ms := ms) (part := pt) (a := Ta) (b := Tb) (s := s) true
                  have h8 := SRow.put HRW.out (to := 1) (by omega) k6 z6 _ HV.out
                  have e9 : sumJ M ms pt Ta Tb s 2 = ((sumJ M ms pt Ta Tb s 1).set 1 (sumE M ms pt Ta Tb s true ((sumJ M ms pt Ta Tb s 1).getD 1 none))) := h9
                  rw [e9]
                  exact h8
                case measure => simp [intOf]
            · go_wp2
              go_roundw
              case rel => exact ⟨s + 1, by omega, by go_num, HR.out, hbE⟩
              case measure => simp [intOf]; omega
        · obtain rfl : S = s := by omega
          have hrC := HR0.out
          have hS : sumJ M ms pt Ta Tb S 0 = [sumT M ms xs n t false, sumT M ms xs n t true] := by rw [HSUM.out false, HSUM.out true]; rfl
          rw [hS] at hrC
          obtain ⟨f5, y5, d0, d1, hd5⟩ := hrC.cells (s := 0) (by omega)
          obtain ⟨f6, y6, d2, d3, hd6⟩ := hrC.cells (s := 1) (by omega)
          have d0 : wC.cell? ⟨wG.heap.size, 0, none⟩ = some (.bool f5) := d0
          have d1 : wC.cell? ⟨wG.heap.size, 1, none⟩ = some (.float .f32 y5) := d1
          have d2 : wC.cell? ⟨wG.heap.size, 2, none⟩ = some (.bool f6) := d2
          have d3 : wC.cell? ⟨wG.heap.size, 3, none⟩ = some (.float .f32 y6) := d3
          have hs5 : stO f5 y5 = sumT M ms xs n t false := hd5
          have hs6 : stO f6 y6 = sumT M ms xs n t true := hd6
          have hbad : (sumT M ms xs n t false = none ∨ sumT M ms xs n t true = none) → allOk (M : Int) ms xs = false := fun h => HNO.out (by
            have h2 := outT_none (outT_stop h) (n - (t + 1))
            rw [show t + 1 + (n - (t + 1)) = n by omega] at h2
            exact h2)
          have HBAD := Lib.hid hbad
          have HS5 := Lib.hid hs5
          have HS6 := Lib.hid hs6
          have hbBC : Below B0 W wC := hbB.trans (hbGC.mono (by omega))
          have hCw : Below w.heap.size w wC := hbw.trans (hbBC.mono hwB)
          have hKC : wC.heap[Dd]? = some (.deferred (some [])) := (hbBC.block Dd hDB).trans HKD.out
          have HCW := Lib.hid hCw
          have HKC := Lib.hid hKC
          have HBBC := Lib.hid hbBC
          have HBGC := Lib.hid hbGC
          have HRC := Lib.hid hrC
          clear hd5 hd6 hbad hs5 hs6 hCw hKC hbBC hbGC hrC hS HR0
          cases f5
          · go_wp2
            refine marks_ret1 rfl HKC.out (results_tmp2 rfl _ _ _) ?_
            exact all_fail (HBAD.out (.inl HS5.out.symm)) (HCW.out.trans (belowK_b (w := w) (Nat.le_refl _) _ Dd _ _ (by omega) HKC.out rfl rfl))
          cases f6
          · go_wp2
            refine marks_ret1 rfl HKC.out (results_tmp2 rfl _ _ _) ?_
            exact all_fail (HBAD.out (.inr HS6.out.symm)) (HCW.out.trans (belowK_b (w := w) (Nat.le_refl _) _ Dd _ _ (by omega) HKC.out rfl rfl))
          have hoC : Ow wC B0 46 _ (ys.map (Value.float .f32)) := own_below HOWN.out (HBGC.out.mono (by omega)) (Nat.le_refl _)
          have HOC := Lib.hid hoC
          have hlen : (ys.map (Value.float .f32)).length + 1 ≤ 1099511627776 := by rw [List.length_map, HYL.out]; omega
          have hzC := HBGC.out.size
          have hzC2 : B0 ≤ wC.heap.size := by omega
          have hx5 : sumT M ms xs n t false = some (fl .f32 y5) := HS5.out.symm
          have hx6 : sumT M ms xs n t true = some (fl .f32 y6) := HS6.out.symm
          have HNX := Lib.hid (outT_step HOUT.out hx5 hx6)
          clear hx5 hx6
          have hbaC : SRow 87 wC ba S Ta := HBA.out.below HBGC.out hbaG
          have hHC : Below B0 wH wC := HB0.out.mono (by omega)
          have hGC : Below B0 wG wC := HBGC.out.mono (by omega)
          have hFW : ∀ w6 : World, SRow 87 w6 ba S Ta → MRow M ms pt false (fun _ _ => true) w6 gm S → Calls Try.prog 50 #[.slice (some ⟨ba, 0, none⟩) S S, .slice (some ⟨gm, 0, none⟩) S S] w6 fun e w' => ∃ b, e = .returned (.slice (some ⟨b, 0, none⟩) S S) ∧ w6.heap.size ≤ b ∧ SRow 87 w' b S (fwdT M ms xs n (t + 1)) ∧ Below w6.heap.size w6 w' := fun w6 q1 q2 => by
            have h := impl_forward_c w6 M hM4 ms pt false ba gm Ta (by rw [HSS.out]; exact q1) (by rw [HSS.out]; exact q2)
            rw [HSS.out, ← HTAB.out] at h
            exact h
          have HFW := Lib.hid hFW
          clear hFW
          have HC5 := Lib.hid c5
          have HC8H := Lib.hid c8
          have HGC := Lib.hid hGC
          have HHC := Lib.hid hHC
          have HBAC := Lib.hid hbaC
          clear c5 c8 hGC hHC hbaC
          go_wp2_with (first
            | (at_builtin; refine appGW Try.underlying25 infoFloat32 rfl (by decide) rfl _ _ rfl _ _ _ rfl (own_dallocY hoC _) _ _ _ rfl (cell_new1 _ _ _) rfl hlen (by simp; omega) ?_; intro v' w6 ho6 hg6; have bH6 := ((below_drewN HHC.out _).alloc (by simp; omega) _).grown hg6 (by simp; omega) (fun k hk => (World.ownsRow.lt HOC.out k hk).1); have bG6 := ((below_drewN HGC.out _).alloc (by simp; omega) _).grown hg6 (by simp; omega) (fun k hk => (World.ownsRow.lt HOC.out k hk).1); have e8 := (bH6.cell (p := ⟨P8, 0, none⟩) hP8).trans HC8H.out; have e5 := (bH6.cell (p := ⟨g5, t, none⟩) hg5).trans HC5.out; have s6 := ((HBAC.out.below (below_drewN (Below.refl wC.heap.size wC) _) HBAC.out.lt).alloc _).kept (own_dallocY hoC _) (by decide) hg6; have hf6 := HFW.out w6 s6 (HGM.out.below bG6 hgz))
            | (go_at_call 50; refine hf6.mono ?_; rintro e w7 ⟨b7, rfl, hb7, hs7, hbel7⟩))
          go_roundw
          case rel =>
            obtain ⟨z, hz, ho7⟩ : ∃ z, fl .f32 z = fop .sub .f32 (fl .f32 y6) (fl .f32 y5) ∧ Ow w6 B0 46 v' ((ys ++ [z]).map (Value.float .f32)) := by
              refine ⟨?zz9, ?hz9, ?oz9⟩
              case oz9 => rw [List.map_append]; exact ho6
              case hz9 => exact fl_fres ..
            have hz67 : B0 ≤ w6.heap.size := Nat.le_trans (by omega) bG6.size
            exact ⟨t + 1, by omega, by go_num, ⟨b7, rfl, hs7⟩, ⟨ys ++ [z], _, HNX.out, by rw [List.map_append, HYS.out, List.map_cons, List.map_nil, hz], by rw [List.length_append, HYL.out, List.length_singleton], own_below ho7 hbel7 (Nat.le_refl _)⟩, (hbB.trans bG6).trans (hbel7.mono hz67)⟩
          case measure => simp [intOf]; omega
    · obtain rfl : t = n := by omega
      obtain ⟨A5, c5, rfl, ho5⟩ := HOWN.out.opn
      have hsl := sl_of_own ho5
      have hfin := HYES.out l HOUT.out
      have HFIN := Lib.hid hfin
      have HCF := Lib.hid (impl_areFinite_c wG wG.heap.size A5 ys.length c5 ys rfl (by rw [HYL.out]; omega) hsl)
      have HO5 := Lib.hid ho5
      have hKG : wG.heap[Dd]? = some (.deferred (some [])) := (hbB.block Dd hDB).trans HKD.out
      have HGW := Lib.hid (hbw.trans (hbB.mono hwB))
      have HKG := Lib.hid hKG
      have hall : (ys.all fun x => finB (fl .f32 x)) = l.all finB := by
        rw [← HYS.out, List.all_map]
        rfl
      obtain ⟨q0, hq0⟩ : ∃ q, l.all finB = q := ⟨_, rfl⟩
      rw [hall, hq0] at HCF
      rw [hq0] at HFIN
      clear hsl ho5 hfin hall hKG
      cases q0
      · go_wp2_with fail
        refine HCF.out.mono ?_
        rintro e w9 ⟨rfl, q9, rfl⟩
        go_wp2
        have hK2 : (wG.drewN q9).heap[Dd]? = some (.deferred (some [])) := HKG.out
        refine marks_ret1 rfl hK2 (results_tmp2 rfl _ _ _) ?_
        exact all_fail HFIN.out.1 ((below_drewN HGW.out q9).trans (belowK_b (w := w) (Nat.le_refl _) _ Dd _ _ (by omega) hK2 rfl rfl))
      · have HF1 := Lib.hid HFIN.out.1
        have HF2 := Lib.hid (HFIN.out.2 rfl)
        clear HFIN
        go_wp2_with fail
        refine HCF.out.mono ?_
        rintro e w9 ⟨rfl, q9, rfl⟩
        go_wp2
        have hK2 : (wG.drewN q9).heap[Dd]? = some (.deferred (some [])) := HKG.out
        refine marks_ret1 rfl hK2 (results_tmp2 rfl _ _ _) ?_
        refine ⟨.slice A5 ys.length c5, ys, ?_, by rw [HF2.out]; exact HYS.out, ?_, (below_drewN HGW.out q9).trans (belowK_b (w := w) (Nat.le_refl _) _ Dd _ _ (by omega) hK2 rfl rfl)⟩
        · rw [HF1.out]
          rfl
        have h := own_lower (ownsRow_putObj (W := wG.drewN q9) HO5.out (.deferred none) hK2 rfl) hwB
        unfold Ow
        rw [List.length_map]
        exact h

end Go.Proofs.Ytopeidmafalklaa
