/-
  Contracts: merged codes, of the reference.
  Conditions: weights in a slice of at most 1048576.
-/
import Derived.Test.YtcjgadepbbcjeaaMO
namespace Go.Proofs.Ytcjgadepbbcjeaa
open Go.RowKit Go.Shelf Go.Sort Go.Lib

/-- what stands beside the row of trees -/
structure Sq (w0 : World) (Lb : Nat) (lv : List Int) (W : World) : Prop where
  row : Row W Lb 2 (lv.map (Value.int .i64))
  box : Obj W w0.heap.size 24 #[.slice none 0 0]
  bel : Below w0.heap.size w0 W
theorem Sq.grown {w0 W W' : World} {Lb b2 k2 : Nat} {lv : List Int} {v2 : Value} {x2 : List Value} (h : Sq w0 Lb lv W) (h2 : W.ownsRow b2 36 2 v2 k2 x2) (hb : w0.heap.size ≤ b2) (hg : W.grownBy W' v2.ownBlock) : Sq w0 Lb lv W' :=
  ⟨h.row.kept h2 (by decide) hg, h.box.kept hg (h.box.not_row (by decide) h2), h.bel.grown hg h.bel.size fun k hk => Nat.le_trans hb (h2.lt k hk).1⟩
theorem Sq.below {w0 W W' : World} {Lb : Nat} {lv : List Int} (h : Sq w0 Lb lv W) (hb : Below W.heap.size W W') : Sq w0 Lb lv W' :=
  ⟨h.row.below hb h.row.lt, h.box.below hb h.box.lt, h.bel.trans (hb.mono h.bel.size)⟩
theorem Sq.long {w0 W : World} {Lb : Nat} {lv : List Int} (h : Sq w0 Lb lv W) (hb : w0.heap.size < Lb) (j : Nat) (y : Int) : Sq w0 Lb (lv.set j y) (W.setCell ⟨Lb, j, none⟩ (.int .i64 y)) := by
  refine ⟨?_, h.box.far (by omega) j _, below_put h.bel (by omega) j _⟩
  have := h.row.put j (.int .i64 y)
  rw [← List.map_set] at this
  exact this
theorem take_cells (P : List Tr) (h : 1 ≤ P.length) : ∃ L, leastI ((cellsQ P).map Prod.fst) = L ∧ L < P.length ∧ (fl2 (cellsQ P))[L * 2]? = some (.int .i64 (mTake P).1.1) ∧ (fl2 (cellsQ P))[L * 2 + 1]? = some (.int .i64 (setN (mTake P).1.2 : Int)) ∧ (fl2 (cellsQ P)).take (L * 2) ++ (fl2 (cellsQ P)).drop ((L + 1) * 2) = fl2 (cellsQ (mTake P).2) := by
  have e : (cellsQ P).map Prod.fst = P.map Prod.fst := by simp [cellsQ]
  have hlt : leastI (P.map Prod.fst) < P.length := by
    have := leastI_lt (ws := P.map Prod.fst) (by simpa using h)
    simpa using this
  have h1 : (mTake P).1 = P[leastI (P.map Prod.fst)] := by simp [mTake, List.getD, hlt]
  have h2 := fl2_at (cellsQ P) (leastI (P.map Prod.fst)) (by simpa [cellsQ] using hlt)
  refine ⟨_, by rw [e], hlt, ?_, ?_, ?_⟩
  · rw [h2.1, h1]; simp [cellsQ]
  · rw [h2.2, h1]; simp [cellsQ]
  · rw [fl2_erase, cellsQ_erase]; rfl

set_option maxRecDepth 100000 in
set_option maxHeartbeats 8000000 in
theorem spec_MergedCode_c (w : World) (A : Option Addr) (n cap : Nat) (ws : List Int) (hl : ws.length = n) (hn : n ≤ 1048576) (hx : Sl w w.heap.size A (ws.map (Value.int .i64))) :
    Calls Try.prog 4 #[.slice A n cap] w (McPost w ws) := by
  unfold McPost
  obtain ⟨w1, e1⟩ : ∃ q : World, q = w.alloc (.cells #[.slice none 0 0] 24) := ⟨_, rfl⟩
  have b1 : Below w.heap.size w w1 := by rw [e1]; exact (Below.refl _ _).alloc (Nat.le_refl _) _
  have z1 : w.heap.size + 1 = w1.heap.size := by rw [e1]; simp
  have bx : Obj w1 w.heap.size 24 #[.slice none 0 0] := by rw [e1]; exact Obj.new _ _ _
  have c1 : w1.cell? ⟨w.heap.size, 0, none⟩ = some (.slice none 0 0) := bx.cell 0
  have f1 : w1.frozen? ⟨w.heap.size, 0, none⟩ = false := bx.frozen 0
  have HWC := Lib.hid (spec_l04Weights_c w1 w1.heap.size A n cap ws hl hn ((hx.below b1).more b1.size))
  have B1 := Lib.hid b1
  have Z1 := Lib.hid z1
  have BX := Lib.hid bx
  cases hw : weightsB ws
  · have hv : mergedV ws = ([], false) := by unfold mergedV; rw [hw]; rfl
    rw [hv]
    rw [hw] at HWC
    clear hw hx b1 z1 bx
    go_enter Try.func4, Try.ntmps4
    go_wp2_with (rw [← e1]; clear e1)
    refine HWC.out.mono ?_
    rintro e w2 ⟨rfl, rfl⟩
    go_wp2
    refine bodyPost_ret (v := .tuple #[.agg #[.slice none 0 0], .bool false]) (by unfold results; rw [Try.results4]; go_simp) rfl ?_
    exact ⟨_, rfl, World.ownsRow_nil _ _ _ _, B1.out.setCell (p := ⟨w.heap.size, 0, none⟩) (Nat.le_refl _) _⟩
  · have hw2 := hw
    unfold weightsB at hw2
    simp only [Bool.and_eq_true, decide_eq_true_eq] at hw2
    obtain ⟨⟨h1, h16⟩, _⟩ := hw2
    rw [hl] at h1 h16
    rw [hw] at HWC
    have hmk := fun W : World => run_mk (P := Try.prog) Try.underlying22 infoInt64 rfl (by decide) n (by omega) .i64 .i64 W
    obtain ⟨w2, e2⟩ : ∃ q' : World, q' = w1.alloc (.cells (zeroRow (.int .i64 0) n) 2) := ⟨_, rfl⟩
    have R2 : Row w2 w1.heap.size 2 (List.replicate n (.int .i64 0)) := by rw [e2]; exact Row.new w1 2 (.int .i64 0) n
    have X2 : Obj w2 w.heap.size 24 #[.slice none 0 0] := by rw [e2]; exact BX.out.alloc _
    have B2 : Below w.heap.size w w2 := by rw [e2]; exact B1.out.alloc (by omega) _
    have z2 : w1.heap.size + 1 = w2.heap.size := by rw [e2]; simp
    by_cases hn1 : n = 1
    · subst hn1
      have hm : mergedL ws = [1] := by unfold mergedL; rw [if_pos hl]
      have hv : mergedV ws = ([1], true) := by unfold mergedV; rw [hw, hm]; rfl
      rw [hv]
      clear hw hx b1 bx hm hv
      have hq : ((1 : Int) == 1) = true := rfl
      have q0 := R2.get (k := 0) (by simp)
      have q1 := R2.frz 0
      simp only [List.getElem_replicate] at q0
      have HR2 := Lib.hid R2
      have HX2 := Lib.hid X2
      have HB2 := Lib.hid B2
      have HZ2 := Lib.hid z2
      clear R2 X2 B2
      have hmk1 : ∀ W : World, (Instr.makeSlice 22 (.int .i64 1) (.int .i64 1)).run Try.prog W = .ok (.slice (some ⟨W.heap.size, 0, none⟩) 1 1) (W.alloc (.cells (zeroRow (.int .i64 0) 1) 2)) := fun W => hmk W
      clear hmk
      have R3 := HR2.out.put 0 (.int .i64 1)
      have X3 := HX2.out.far (by omega) 0 (.int .i64 1) (b := w1.heap.size)
      have B3 := below_put HB2.out (b := w1.heap.size) (by omega) 0 (.int .i64 1)
      obtain ⟨w3, e3⟩ : ∃ q' : World, q' = w2.setCell ⟨w1.heap.size, 0, none⟩ (.int .i64 1) := ⟨_, rfl⟩
      rw [← e3] at R3 X3 B3
      have own := Row.own (base := w.heap.size) R3 (by omega) (by simp)
      have own : w3.ownsRow w.heap.size 2 1 (.slice (some ⟨w1.heap.size, 0, none⟩) 1 1) 1 [.int .i64 1] := own
      have HA := Lib.hid (spec_l04Give_c w3 (some ⟨w1.heap.size, 0, none⟩) 1 1 [1] rfl (by decide) (sl_of_own own))
      have OWN := Lib.hid own
      have HX3 := Lib.hid X3
      have HB3 := Lib.hid B3
      clear R3 X3 B3 own
      go_enter Try.func4, Try.ntmps4
      go_wp2_with (rw [← e1]; clear e1)
      refine HWC.out.mono ?_
      rintro e w3' ⟨rfl, hww⟩
      rw [hww]
      clear hww w3'
      go_wp2_with (first | (rw [← e2]; clear e2) | (rw [← e3]; clear e3))
      refine HA.out.mono ?_
      rintro e w5 ⟨rfl, hb5⟩
      have xx := HX3.out.below hb5 HX3.out.lt
      have d1 := xx.cell 0
      have d2 := xx.frozen 0
      have ow5 := own_below OWN.out hb5 (Nat.le_refl _)
      have OW5 := Lib.hid (ow5.kept (grownBy_set w5 w.heap.size 0 (.slice (some ⟨w1.heap.size, 0, none⟩) 1 1)) (.inr (by have := Z1.out; simp [Value.ownBlock]; omega)))
      have B5 := Lib.hid (HB3.out.trans (hb5.mono HB3.out.size))
      clear ow5 xx
      have hcd : codeB [1] = true := by decide
      rw [hcd]
      unfold asV
      go_wp2_with fail
      refine bodyPost_ret (v := .tuple #[.agg #[.slice (some ⟨w1.heap.size, 0, none⟩) 1 1], .bool true]) (by unfold results; rw [Try.results4]; go_simp) rfl ?_
      exact ⟨_, rfl, OW5.out, B5.out.setCell (p := ⟨w.heap.size, 0, none⟩) (Nat.le_refl _) _⟩
    · have hm : mergedL ws = (mRun (n - 1) (mStart ws)).2 := by unfold mergedL; rw [if_neg (by omega), hl]
      have hinv := fun k hk => mInv_run hw k hk
      rw [hl] at hinv
      have hne1 : ((n : Int) == 1) = false := by simp; omega
      have hs0 : Sq w w1.heap.size (mStart ws).2 w2 := ⟨by
        have : (mStart ws).2.map (Value.int .i64) = List.replicate n (.int .i64 0) := by simp [mStart, hl]
        rw [this]
        exact R2, X2, B2⟩
      have HS0 := Lib.hid hs0
      have HX := Lib.hid (hx.below B2)
      have HM := Lib.hid hm
      have HINV := Lib.hid hinv
      have HW := Lib.hid hw
      clear hx hw hm hinv b1 bx R2 X2 B2 hs0
      go_enter Try.func4, Try.ntmps4
      go_wp2_with (rw [← e1]; clear e1)
      refine HWC.out.mono ?_
      rintro e w3' ⟨rfl, hww⟩
      rw [hww]
      clear hww w3'
      go_wp2_with (rw [← e2]; clear e2)
      go_loopw [5, 6] (fun v i wr => ∃ k : Nat, k ≤ n ∧ i = .int .i64 k ∧ wr.ownsRow w1.heap.size 36 2 v k (fl2 (cellsQ ((soloP ws).take k))) ∧ Sq w w1.heap.size (mStart ws).2 wr) (fun _ i _ => n - (RowKit.intOf i).toNat)
      case atStart =>
        refine ⟨0, Nat.zero_le _, rfl, ?_, HS0.out.below ((Below.refl _ _).alloc (Nat.le_refl _) _)⟩
        exact World.ownsRow_lit w2 #[] 0 (by omega) (by simp [maxLen]) rfl
      case round =>
        obtain ⟨k, hk, rfl, ho, hst⟩ := hrel
        by_cases hlt : k < n
        · obtain ⟨b, off, rfl, hbb, hc1⟩ := HX.out.get k (by omega)
          have hc1 := ((hst.bel.cell (p := ⟨b, off + k, none⟩) hbb).trans (HS0.out.bel.cell (p := ⟨b, off + k, none⟩) hbb).symm).trans hc1
          have hsolo : (soloP ws).take (k + 1) = (soloP ws).take k ++ [(ws[k]'(by omega), [(k : Int)])] := by
            rw [List.take_succ_eq_append_getElem (by simp [soloP]; omega)]
            simp [soloP]
          obtain ⟨x, ex⟩ : ∃ x, ws[k]'(by omega) = x := ⟨_, rfl⟩
          rw [ex] at hc1 hsolo
          have hpw : ∀ k < 16, IntKind.i64.wrap (2 ^ k) = ((2 ^ k : Nat) : Int) ∧ wrap64 (2 ^ k) = ((2 ^ k : Nat) : Int) := by decide +kernel
          obtain ⟨hp1, hp2⟩ := hpw k (by omega)
          clear hpw
          have hset : setN [(k : Int)] = 2 ^ k := by simp [setN]
          obtain ⟨pk, epk⟩ : ∃ pk, (2 ^ k : Nat) = pk := ⟨_, rfl⟩
          rw [epk] at hp1 hp2 hset
          have HS := Lib.hid hsolo
          have HST := Lib.hid hst
          have HSET := Lib.hid hset
          clear hsolo hst ex hset epk
          obtain ⟨w4, e4⟩ : ∃ q : World, q = wr.alloc (.cells #[.int .i64 x, .int .i64 (pk : Int)] 36) := ⟨_, rfl⟩
          have b4 : RowKit.Below wr.heap.size wr w4 := by rw [e4]; exact (RowKit.Below.refl _ _).alloc (Nat.le_refl _) _
          have k0 : w4.cell? ⟨wr.heap.size, 0, none⟩ = some (.int .i64 x) := by rw [e4]; (first | (simp; done) | (simp (disch := (first | (simp; done) | (simp; omega))) [World.cell?_alloc_at]; done) | (simp (disch := (first | (simp; done) | (simp; omega))) [World.cell?_alloc_past]; done) | (simp (disch := (first | (simp; done) | (simp; omega))) [World.cell?_alloc_at, World.cell?_alloc_past]; done) | (simp (disch := (first | (simp; done) | (simp; omega))) [World.frozen?_alloc_at]; done) | (simp (disch := (first | (simp; done) | (simp; omega))) [World.frozen?_alloc_past]; done) | (simp (disch := (first | (simp; done) | (simp; omega))) [World.frozen?_alloc_at, World.frozen?_alloc_past]; done))
          have k1 : w4.cell? ⟨wr.heap.size, 1, none⟩ = some (.int .i64 (pk : Int)) := by rw [e4]; (first | (simp; done) | (simp (disch := (first | (simp; done) | (simp; omega))) [World.cell?_alloc_at]; done) | (simp (disch := (first | (simp; done) | (simp; omega))) [World.cell?_alloc_past]; done) | (simp (disch := (first | (simp; done) | (simp; omega))) [World.cell?_alloc_at, World.cell?_alloc_past]; done) | (simp (disch := (first | (simp; done) | (simp; omega))) [World.frozen?_alloc_at]; done) | (simp (disch := (first | (simp; done) | (simp; omega))) [World.frozen?_alloc_past]; done) | (simp (disch := (first | (simp; done) | (simp; omega))) [World.frozen?_alloc_at, World.frozen?_alloc_past]; done))
          have ho4 := own_below ho b4 (Nat.le_refl _)
          have S4 := Lib.hid (HST.out.below b4)
          have hcell : ∀ t u', [Value.int .i64 x, .int .i64 (pk : Int)][t]? = some u' → w4.cell? ⟨wr.heap.size, t, none⟩ = some u' := by
            intro t u' hu'
            rcases t with _ | _ | t
            · cases hu'; exact k0
            · cases hu'; exact k1
            · cases hu'
          have hbase : w1.heap.size ≤ w4.heap.size := by have := S4.out.row.lt; omega
          clear ho
          go_wp2_with (first | (rw [← e4]; clear e4) | (at_builtin; refine app1s (P := Try.prog) 2 (by decide) rfl rfl rfl (by decide) rfl _ _ rfl w1.heap.size _ _ _ rfl ho4 wr.heap.size 1 [.int .i64 x, .int .i64 (pk : Int)] rfl rfl hcell (by intro u' hu'; simp at hu'; rcases hu' with rfl | rfl <;> rfl) (by omega) hbase ?_; rintro v' w' ho' hb' hg' -))
          go_roundw
          case rel =>
            refine ⟨k + 1, hlt, by go_num, ?_, S4.out.grown ho4 (by have := Z1.out; omega) hg'⟩
            have e3 : fl2 (cellsQ ((soloP ws).take (k + 1))) = fl2 (cellsQ ((soloP ws).take k)) ++ [Value.int .i64 x, .int .i64 (pk : Int)] := by
              rw [HS.out]
              unfold cellsQ
              rw [List.map_append, fl2_app, List.map_singleton, HSET.out]
              rfl
            rw [e3]
            exact ho'
          case measure => simp [RowKit.intOf]; omega
        · obtain rfl : k = n := by omega
          have hall : (soloP ws).take k = (mRun 0 (mStart ws)).1 := List.take_of_length_le (by simp [soloP, hl])
          rw [hall] at ho
          have HO := Lib.hid ho
          have HST := Lib.hid hst
          clear hall ho hst
          obtain ⟨w5, rfl⟩ : ∃ q : World, q = wr := ⟨_, rfl⟩
          go_wp2
          go_loopw [5] (fun u wr => ∃ j m g c : Nat, m + j = k ∧ 1 ≤ m ∧ u = .slice (some ⟨g, 0, none⟩) m c ∧ wr.ownsRow w1.heap.size 36 2 (.slice (some ⟨g, 0, none⟩) m c) m (fl2 (cellsQ (mRun j (mStart ws)).1)) ∧ Sq w w1.heap.size (mRun j (mStart ws)).2 wr) (fun u _ => lenV u)
          case atStart =>
            obtain ⟨g, c, rfl, _⟩ := World.ownsRow.form HO.out (by omega)
            exact ⟨0, k, g, c, rfl, by omega, rfl, HO.out, HST.out⟩
          case round =>
            obtain ⟨r, m, g, c, hmr, hm1, rfl, ho, hst⟩ := hrel
            obtain ⟨w6, rfl⟩ : ∃ q : World, q = wr := ⟨_, rfl⟩
            by_cases hlt1 : 1 < m
            · obtain ⟨s, es⟩ : ∃ s, mRun r (mStart ws) = s := ⟨_, rfl⟩
              have hinv : MInv k r s := by rw [← es]; exact HINV.out r (by omega)
              have hnext : mRun (r + 1) (mStart ws) = mStep s := by rw [← es]; rfl
              rw [es] at ho hst
              have hsl : s.1.length = m := by have := hinv.len; omega
              have hlen2 : 2 ≤ s.1.length := by omega
              have HNX := Lib.hid hnext
              have HI := Lib.hid hinv
              have HL2 := Lib.hid hlen2
              have mixed : Try.prog.follows Departure.mixedOrders = true := rfl
              obtain ⟨i0, hi0, hz2⟩ : ∃ i0, Try.prog.info? 36 = some i0 ∧ i0.size = 2 := ⟨_, rfl, rfl⟩
              clear hnext es
              obtain ⟨L, hL0, hLl, hL1, hL2, hL3⟩ := take_cells s.1 (by omega)
              rw [hsl] at hLl
              have HLT := Lib.hid (spec_l04LeastTree_c w6 g 0 m c ((cellsQ s.1).map Prod.fst) (by simp [cellsQ, hsl]) hm1 (by omega) (own_bn ho))
              rw [hL0] at HLT
              have k0 := World.ownsRow.cellAt ho (L * 2) (by omega)
              have k1 := World.ownsRow.cellAt ho (L * 2 + 1) (by omega)
              rw [hL1] at k0
              rw [hL2] at k1
              obtain ⟨⟨x1, l1⟩, ea⟩ : ∃ a, (mTake s.1).1 = a := ⟨_, rfl⟩
              rw [ea] at k0 k1
              simp only at k0 k1
              obtain ⟨S1, eS1⟩ : ∃ q, setN l1 = q := ⟨_, rfl⟩
              rw [eS1] at k1
              have q1 : (0 : Int) ≤ (L : Int) := by omega
              have q2 : (L : Int) < (m : Int) := by omega
              have q3 : (0 : Int) ≤ (L : Int) + 1 := by omega
              have q4 : (L : Int) + 1 ≤ (m : Int) := by omega
              have hwr : IntKind.i64.wrap ((L : Int) + 1) = (L : Int) + 1 := IntWalk.i64_in _ (by omega)
              have HO := Lib.hid ho
              have HST := Lib.hid hst
              have HL3 := Lib.hid hL3
              have HEA := Lib.hid ea
              have HES1 := Lib.hid eS1
              have HL0 := Lib.hid hL0
              clear ho hst hL0 hL1 hL2 hL3 ea eS1 hinv
              go_wp2_with fail
              refine HLT.out.mono ?_
              rintro e wa ⟨rfl, q, hwa⟩
              have k0 : wa.cell? ⟨g, L * 2, none⟩ = some (.int .i64 x1) := by rw [hwa]; exact k0
              have k1 : wa.cell? ⟨g, L * 2 + 1, none⟩ = some (.int .i64 (S1 : Int)) := by rw [hwa]; exact k1
              have HOA : Hid (wa.ownsRow w1.heap.size 36 2 (.slice (some ⟨g, 0, none⟩) m c) m (fl2 (cellsQ s.1))) := by rw [hwa]; exact HO.out
              have HSA : Hid (Sq w w1.heap.size s.2 wa) := by rw [hwa]; exact HST.out.below (below_drewN (Below.refl _ _) _)
              clear hwa
              obtain ⟨wb, eb⟩ : ∃ q' : World, q' = wa.alloc (.cells #[.int .i64 x1, .int .i64 (S1 : Int)] 36) := ⟨_, rfl⟩
              have bb : RowKit.Below wa.heap.size wa wb := by rw [eb]; exact (RowKit.Below.refl _ _).alloc (Nat.le_refl _) _
              have xb : Obj wb wa.heap.size 36 #[.int .i64 x1, .int .i64 (S1 : Int)] := by rw [eb]; exact Obj.new _ _ _
              have ob := own_below HOA.out bb (Nat.le_refl _)
              have hga := (HOA.out.lt g rfl).2
              have HSB := Lib.hid (HSA.out.below bb)
              have XB := Lib.hid xb
              obtain ⟨A1, news, wc, hA, n1, n2, n3, n4, hW, oc, gc, hmc⟩ := erase_facts wb w1.heap.size g m c L 36 _ ob hLl (cellsQ_one _) (L + 1) rfl
              have hlm := len_cut (j := L + 1) rfl hLl
              rw [hlm, HL3.out] at oc
              have OB := Lib.hid ob
              have n1 := Lib.hid n1
              have n2 := Lib.hid n2
              have n3 := Lib.hid n3
              have n4 := Lib.hid n4
              have HWC := Lib.hid hW
              have OC := Lib.hid oc
              have GC := Lib.hid gc
              obtain ⟨hic, hjc, hjm⟩ := le_cut (j := L + 1) rfl hLl hmc
              clear hlm
              clear ob xb hW oc gc
              go_wp2_with (rw [← eb]; clear eb)
              go_region_law_o (refine step_append_room rfl (.tmp 58) (.tmp 62) 33 rfl 36 i0 2 rfl hi0 hz2 g 0 L c (by simp [Act.eval, Act.put]) A1 (m - (L + 1)) (c - (L + 1)) news (by simp [Act.eval, Act.put]) n1.out n2.out n3.out (by omega) n4.out ?_; rw [← HWC.out])
              clear hA hic hjc hjm k0 k1
              have hlm := len_cut (j := L + 1) rfl hLl
              rw [hlm]
              clear hlm hwr q1 q2 q3 q4 hLl
              have hgz := GC.out.size
              have xc := XB.out.kept GC.out (by simp; omega)
              have HSC := Lib.hid (HSB.out.grown OB.out (by have := Z1.out; omega) GC.out)
              have HXC := Lib.hid xc
              obtain ⟨P1, eP1⟩ : ∃ P1, (mTake s.1).2 = P1 := ⟨_, rfl⟩
              rw [eP1] at OC
              have hsl1 : P1.length = m - 1 := by rw [← eP1, mTake_len (Nat.le_of_succ_le HL2.out), hsl]
              obtain ⟨m1, em1⟩ : ∃ m1, m - 1 = m1 := ⟨_, rfl⟩
              rw [em1] at OC hsl1 ⊢
              have hm1p : 1 ≤ m1 := by omega
              have hm1n : m1 ≤ 1048576 := by omega
              have HEP1 := Lib.hid eP1
              clear eP1 xc
              obtain ⟨L', hL0', hLl', hL1', hL2', hL3'⟩ := take_cells P1 (by rw [hsl1]; exact hm1p)
              rw [hsl1] at hLl'
              have HLT' := Lib.hid (spec_l04LeastTree_c wc g 0 m1 c ((cellsQ P1).map Prod.fst) (by simp [cellsQ, hsl1]) hm1p hm1n (own_bn OC.out))
              rw [hL0'] at HLT'
              have k0 := World.ownsRow.cellAt OC.out (L' * 2) (by omega)
              have k1 := World.ownsRow.cellAt OC.out (L' * 2 + 1) (by omega)
              rw [hL1'] at k0
              rw [hL2'] at k1
              obtain ⟨⟨x2, l2⟩, ea2⟩ : ∃ a, (mTake P1).1 = a := ⟨_, rfl⟩
              rw [ea2] at k0 k1
              simp only at k0 k1
              obtain ⟨S2, eS2⟩ : ∃ q, setN l2 = q := ⟨_, rfl⟩
              rw [eS2] at k1
              have q1 : (0 : Int) ≤ (L' : Int) := by omega
              have q2 : (L' : Int) < (m1 : Int) := by omega
              have q3 : (0 : Int) ≤ (L' : Int) + 1 := by omega
              have q4 : (L' : Int) + 1 ≤ (m1 : Int) := by omega
              have hwr : IntKind.i64.wrap ((L' : Int) + 1) = (L' : Int) + 1 := IntWalk.i64_in _ (by omega)
              have HL3' := Lib.hid hL3'
              have HEA2 := Lib.hid ea2
              have HES2 := Lib.hid eS2
              have hgc := (OC.out.lt g rfl).2
              clear hL0' hL1' hL2' hL3' ea2 eS2
              go_wp2_with fail
              refine HLT'.out.mono ?_
              rintro e wd ⟨rfl, q', hwd⟩
              have k0 : wd.cell? ⟨g, L' * 2, none⟩ = some (.int .i64 x2) := by rw [hwd]; exact k0
              have k1 : wd.cell? ⟨g, L' * 2 + 1, none⟩ = some (.int .i64 (S2 : Int)) := by rw [hwd]; exact k1
              have HOD : Hid (wd.ownsRow w1.heap.size 36 2 (.slice (some ⟨g, 0, none⟩) m1 c) m1 (fl2 (cellsQ P1))) := by rw [hwd]; exact OC.out
              have HSD : Hid (Sq w w1.heap.size s.2 wd) := by rw [hwd]; exact HSC.out.below (below_drewN (Below.refl _ _) _)
              have HXD : Hid (Obj wd wa.heap.size 36 #[.int .i64 x1, .int .i64 (S1 : Int)]) := by rw [hwd]; exact HXC.out
              clear hwd
              obtain ⟨we, ee⟩ : ∃ q' : World, q' = wd.alloc (.cells #[.int .i64 x2, .int .i64 (S2 : Int)] 36) := ⟨_, rfl⟩
              have be : RowKit.Below wd.heap.size wd we := by rw [ee]; exact (RowKit.Below.refl _ _).alloc (Nat.le_refl _) _
              have xe : Obj we wd.heap.size 36 #[.int .i64 x2, .int .i64 (S2 : Int)] := by rw [ee]; exact Obj.new _ _ _
              have oe := own_below HOD.out be (Nat.le_refl _)
              have hgd := (HOD.out.lt g rfl).2
              have HSE := Lib.hid (HSD.out.below be)
              have XE := Lib.hid xe
              have XE1 := Lib.hid (HXD.out.below be HXD.out.lt)
              obtain ⟨A2, news2, wf, hA2, n5, n6, n7, n8, hW2, of, gf, hmc2⟩ := erase_facts we w1.heap.size g m1 c L' 36 _ oe hLl' (cellsQ_one _) (L' + 1) rfl
              rw [len_cut (j := L' + 1) rfl hLl', HL3'.out] at of
              have OE := Lib.hid oe
              have n5 := Lib.hid n5
              have n6 := Lib.hid n6
              have n7 := Lib.hid n7
              have n8 := Lib.hid n8
              have HWF := Lib.hid hW2
              have OF := Lib.hid of
              have GF := Lib.hid gf
              obtain ⟨hic, hjc, hjm⟩ := le_cut (j := L' + 1) rfl hLl' hmc2
              clear oe xe hW2 of gf n1 n2 n3 n4
              go_wp2_with (rw [← ee]; clear ee)
              go_region_law_o (refine step_append_room rfl (.tmp 72) (.tmp 76) 33 rfl 36 i0 2 rfl hi0 hz2 g 0 L' c (by simp [Act.eval, Act.put]) A2 (m1 - (L' + 1)) (c - (L' + 1)) news2 (by simp [Act.eval, Act.put]) n5.out n6.out n7.out (by omega) n8.out ?_; rw [← HWF.out])
              clear hA2 hic hjc hjm k0 k1
              have hlm := len_cut (j := L' + 1) rfl hLl'
              rw [hlm]
              clear hlm hwr q1 q2 q3 q4 hLl' n5 n6 n7 n8
              have hgz2 := GF.out.size
              have HSF := Lib.hid (HSE.out.grown OE.out (by have := Z1.out; omega) GF.out)
              have XF := XE.out.kept GF.out (by simp; omega)
              have XF1 := XE1.out.kept GF.out (by simp; omega)
              obtain ⟨P2, eP2⟩ : ∃ P2, (mTake P1).2 = P2 := ⟨_, rfl⟩
              rw [eP2] at OF
              have hsl2 : P2.length = m1 - 1 := by rw [← eP2, mTake_len (by omega), hsl1]
              have hboth : mBoth s.1 = (x1 + x2, l1 ++ l2) := by
                unfold mBoth joinT
                rw [HEA.out, HEP1.out, HEA2.out]
              have hst2 : mStep s = (P2 ++ [(x1 + x2, l1 ++ l2)], addL s.2 (l1 ++ l2)) := by
                unfold mStep
                rw [hboth, HEP1.out, eP2]
              have hnd := mBoth_nodup HI.out HL2.out
              rw [hboth] at hnd
              simp only at hnd
              have hb1 := mInv_one HI.out ((mTake_perm (P := s.1) (by have := HL2.out; omega)).mem_iff.1 (List.mem_cons_self ..))
              have hb2 := mInv_one HI.out ((mTake_perm (P := s.1) (by have := HL2.out; omega)).mem_iff.1 (List.mem_cons_of_mem _ (by rw [HEP1.out]; exact (mTake_perm (P := P1) (by omega)).mem_iff.1 (List.mem_cons_self ..))))
              rw [HEA.out] at hb1
              rw [HEA2.out] at hb2
              have hslen : s.2.length = k := HI.out.long
              have hbds := HI.out.bds
              obtain ⟨ls, els⟩ : ∃ ls, l1 ++ l2 = ls := ⟨_, rfl⟩
              have hS3 : S1 ||| S2 = setN ls := by rw [← els, setN_app, HES1.out, HES2.out]
              rw [els] at hst2 hnd
              have hltS1 : setN l1 < 65536 := setN_lt l1 fun x hx => by have := hnd.2 x (by rw [← els]; exact List.mem_append_left _ hx); omega
              have hltS2 : setN l2 < 65536 := setN_lt l2 fun x hx => by have := hnd.2 x (by rw [← els]; exact List.mem_append_right _ hx); omega
              have hltS3 : setN ls < 65536 := setN_lt ls fun x hx => by have := hnd.2 x hx; omega
              have hor : bits .or .i64 (S1 : Int) (S2 : Int) = (setN ls : Int) := by rw [or_natM S1 S2 (by rw [← HES1.out]; exact hltS1) (by rw [← HES2.out]; exact hltS2), hS3]
              have hbit : ∀ j : Nat, bits .and .i64 ((setN ls : Int) / 2 ^ j) 1 = if (j : Int) ∈ ls then 1 else 0 := fun j => by
                rw [bitI _ _ hltS3, setN_bit ls (fun x hx => (hnd.2 x hx).1)]
                simp
              obtain ⟨S3, eS3⟩ : ∃ q, setN ls = q := ⟨_, rfl⟩
              rw [eS3] at hor hbit hltS3
              have hadd : IntKind.i64.wrap (x1 + x2) = x1 + x2 := IntWalk.i64_in _ (by simp only at hb1 hb2; omega)
              obtain ⟨wg, eg⟩ : ∃ q' : World, q' = wf.alloc (.cells #[.int .i64 (x1 + x2), .int .i64 (S3 : Int)] 36) := ⟨_, rfl⟩
              have bg : RowKit.Below wf.heap.size wf wg := by rw [eg]; exact (RowKit.Below.refl _ _).alloc (Nat.le_refl _) _
              have xg : Obj wg wf.heap.size 36 #[.int .i64 (x1 + x2), .int .i64 (S3 : Int)] := by rw [eg]; exact Obj.new _ _ _
              have og := own_below OF.out bg (Nat.le_refl _)
              obtain ⟨wh, eh⟩ : ∃ q' : World, q' = wg.alloc (.cells #[.int .i64 (x1 + x2), .int .i64 (S3 : Int)] 36) := ⟨_, rfl⟩
              have bh : RowKit.Below wg.heap.size wg wh := by rw [eh]; exact (RowKit.Below.refl _ _).alloc (Nat.le_refl _) _
              have xh : Obj wh wg.heap.size 36 #[.int .i64 (x1 + x2), .int .i64 (S3 : Int)] := by rw [eh]; exact Obj.new _ _ _
              have xgh := xg.below bh xg.lt
              have oh := own_below og bh (Nat.le_refl _)
              have hgf := (OF.out.lt g rfl).2
              have hbase : w1.heap.size ≤ wh.heap.size := by have := (oh.lt g rfl); omega
              have HSH := Lib.hid ((HSF.out.below bg).below bh)
              have hcell : ∀ t u', [Value.int .i64 (x1 + x2), .int .i64 (S3 : Int)][t]? = some u' → wh.cell? ⟨wg.heap.size, t, none⟩ = some u' := by
                intro t u' hu'
                rcases t with _ | _ | t
                · cases hu'; exact xh.cell 0
                · cases hu'; exact xh.cell 1
                · cases hu'
              obtain ⟨⟨p0, p1⟩, _, _⟩ := XF1.two
              obtain ⟨⟨p2, p3⟩, _, _⟩ := XF.two
              obtain ⟨⟨p4, p5⟩, _, _⟩ := xg.two
              have XGH := Lib.hid xgh
              have HND := Lib.hid hnd
              have HST2 := Lib.hid hst2
              have HBIT := Lib.hid hbit
              have HSL := Lib.hid hslen
              have HBDS := Lib.hid hbds
              have HES3 := Lib.hid eS3
              have hfz : wf.heap.size < wg.heap.size := xg.lt
              have hr16 : r ≤ 16 := by omega
              clear XF XF1 xg xh xgh og hbit hnd hst2 hboth hslen hbds eS3 eP2 hS3 els hltS1 hltS2
              go_wp2_with (first | (rw [← eg]; clear eg) | (rw [← eh]; clear eh) | (at_builtin; refine app1s (P := Try.prog) 2 (by decide) rfl rfl rfl (by decide) rfl _ _ rfl w1.heap.size _ _ _ rfl oh wg.heap.size 1 [.int .i64 (x1 + x2), .int .i64 (S3 : Int)] rfl rfl hcell (by intro u' hu'; simp at hu'; rcases hu' with rfl | rfl <;> rfl) (by omega) hbase ?_; rintro v' w' ho' hb' hg' ⟨g', c', rfl⟩))
              have xgi : Obj w' wf.heap.size 36 #[.int .i64 (x1 + x2), .int .i64 (S3 : Int)] := XGH.out.kept hg' (fun e => by have h5 : wf.heap.size = g := (Option.some.inj e); omega)
              have HSI := Lib.hid (HSH.out.grown oh (by have := Z1.out; omega) hg')
              have XGI := Lib.hid xgi
              have HOI := Lib.hid ho'
              have hm2 : m1 - 1 + 1 = m1 := by omega
              rw [hm2] at HOI
              have hgi := (HOI.out.lt g' rfl).2
              have hslk : s.2.length = k := HSL.out
              clear xgi ho' oh p0 p1 p2 p3 p4 p5
              go_loopw [12] (fun i wl => ∃ j : Nat, j ≤ k ∧ i = .int .i64 j ∧ Sq w w1.heap.size (addK s.2 ls j) wl ∧ wl.ownsRow w1.heap.size 36 2 (.slice (some ⟨g', 0, none⟩) m1 c') m1 (fl2 (cellsQ P2) ++ [Value.int .i64 (x1 + x2), .int .i64 (S3 : Int)]) ∧ Obj wl wf.heap.size 36 #[.int .i64 (x1 + x2), .int .i64 (S3 : Int)]) (fun i _ => k - (RowKit.intOf i).toNat)
              case atStart =>
                refine ⟨0, Nat.zero_le _, rfl, ?_, HOI.out, XGI.out⟩
                rw [addK_zero]
                exact HSI.out
              case round =>
                obtain ⟨wl, rfl⟩ : ∃ q' : World, q' = wr := ⟨_, rfl⟩
                obtain ⟨j, hj, rfl, sl, ol, xl⟩ := hrel
                by_cases hjk : j < k
                · have haddl : (addK s.2 ls j).length = k := by rw [addK_len, hslk]
                  have hg0 : (addK s.2 ls j).getD j 0 = s.2.getD j 0 := by rw [addK_get _ _ _ _ (by omega)]; simp
                  have hk2 : wl.cell? ⟨w1.heap.size, j, none⟩ = some (.int .i64 (s.2.getD j 0)) := by
                    rw [sl.row.get (k := j) (by rw [List.length_map, haddl]; omega), ← hg0]
                    simp [List.getD, show j < (addK s.2 ls j).length by rw [haddl]; omega]
                  have hk3 := sl.row.frz j
                  have hb := HBDS.out _ (List.getElem_mem (show j < s.2.length by omega))
                  have hsj : s.2.getD j 0 = s.2[j]'(by omega) := by simp [List.getD, show j < s.2.length by omega]
                  rw [← hsj] at hb
                  have hsucc := addK_succ s.2 ls j
                  have hbit := HBIT.out j
                  obtain ⟨b, eb⟩ : ∃ b : Int, (if (j : Int) ∈ ls then (1 : Int) else 0) = b := ⟨_, rfl⟩
                  have hb01 : 0 ≤ b ∧ b ≤ 1 := by rw [← eb]; split <;> omega
                  rw [eb] at hbit hsucc
                  obtain ⟨a, ea⟩ : ∃ a, s.2.getD j 0 = a := ⟨_, rfl⟩
                  rw [ea] at hb hk2 hsucc
                  obtain ⟨⟨p0, p1⟩, _, _⟩ := xl.two
                  have q1 : (0 : Int) ≤ (j : Int) := by omega
                  have q2 : (j : Int) < (k : Int) := by omega
                  have hadd2 : IntKind.i64.wrap (a + b) = a + b := IntWalk.i64_in _ (by omega)
                  have SL := Lib.hid (sl.long (by have := Z1.out; omega) j (a + b))
                  have HSU := Lib.hid hsucc
                  have OL := Lib.hid ol
                  have XL := Lib.hid xl
                  have ROW := Lib.hid sl.row
                  clear sl ol xl hsucc hg0 haddl hsj ea eb
                  go_wp2_with fail
                  go_region
                  have q5 := hjk
                  clear hk2 hk3 p0 p1 hbit
                  go_wp2_with fail
                  go_roundw
                  case rel =>
                    refine ⟨j + 1, q5, by go_num, ?_, ?_, ?_⟩
                    · rw [HSU.out]; exact SL.out.below (below_drewN (RowKit.Below.refl _ _) 1)
                    · exact (OL.out.kept (grownBy_set wl w1.heap.size j (.int .i64 (a + b))) (.inr (ROW.out.not_row (by decide) OL.out).symm)).drew
                    · exact (XL.out.far (fun e => by
                        have h1 : wl.heap[wf.heap.size]? = _ := XL.out
                        rw [e, show wl.heap[w1.heap.size]? = _ from ROW.out] at h1
                        simp at h1) j _).drew
                  case measure => simp [RowKit.intOf]; omega
                · obtain rfl : j = k := by omega
                  have hall : addK s.2 ls j = addL s.2 ls := by rw [← hslk, addK_all s.2 ls HND.out.1 (fun x hx => by rw [hslk]; exact HND.out.2 x hx)]
                  rw [hall] at sl
                  have SL := Lib.hid sl
                  have OL := Lib.hid ol
                  clear sl ol xl hall
                  go_wp2
                  go_roundw
                  case rel =>
                    have e3 : fl2 (cellsQ (P2 ++ [((x1 + x2, ls) : Tr)])) = fl2 (cellsQ P2) ++ [Value.int .i64 (x1 + x2), .int .i64 (S3 : Int)] := by
                      unfold cellsQ
                      rw [List.map_append, fl2_app, List.map_singleton, HES3.out]
                      rfl
                    refine ⟨r + 1, m1, g', c', by omega, by omega, rfl, ?_, ?_⟩
                    · rw [HNX.out, HST2.out, e3]; exact OL.out
                    · rw [HNX.out, HST2.out]; exact SL.out
                  case measure => simp [lenV]; omega
            · obtain rfl : m = 1 := by omega
              obtain rfl : r = k - 1 := by omega
              have hmv : mergedL ws = (mRun (k - 1) (mStart ws)).2 := HM.out
              rw [← hmv] at hst
              have hlong : (mergedL ws).length = k := by rw [hmv]; exact (HINV.out (k - 1) (by omega)).long
              have HV : mergedV ws = if codeB (mergedL ws) then (mergedL ws, true) else ([], false) := by unfold mergedV; rw [HW.out, Bool.true_and]
              have HV := Lib.hid HV
              obtain ⟨L, eL⟩ : ∃ L, mergedL ws = L := ⟨_, rfl⟩
              rw [eL] at hst hlong HV
              have own := Row.own (base := w.heap.size) hst.row (by have := Z1.out; omega) (by rw [List.length_map]; omega)
              unfold Ow at own
              rw [List.length_map, hlong] at own
              have HA := Lib.hid (spec_l04Give_c w6 _ k k L hlong hn (sl_of_own own))
              have OWN := Lib.hid own
              have BB := Lib.hid hst.bel
              have hbl := hst.box.lt
              have BXX := Lib.hid hst.box
              clear hst own hmv ho eL
              go_wp2_with fail
              refine HA.out.mono ?_
              rintro e w7 ⟨rfl, hb7⟩
              have xx := BXX.out.below hb7 hbl
              have d1 := xx.cell 0
              have d2 := xx.frozen 0
              have ow7 := own_below OWN.out hb7 (Nat.le_refl _)
              have OW7 := Lib.hid (ow7.kept (grownBy_set w7 w.heap.size 0 (.slice (some ⟨w1.heap.size, 0, none⟩) k k)) (.inr (by have := Z1.out; simp [Value.ownBlock]; omega)))
              have B7 := Lib.hid (BB.out.trans (hb7.mono BB.out.size))
              clear ow7 xx
              cases hc : codeB L
              · rw [hc] at HV
                unfold asV
                go_wp2_with fail
                refine bodyPost_ret (v := .tuple #[.agg #[.slice none 0 0], .bool false]) (by unfold results; rw [Try.results4]; go_simp) rfl ?_
                refine ⟨_, by rw [HV.out]; rfl, ?_, B7.out.setCell (p := ⟨w.heap.size, 0, none⟩) (Nat.le_refl _) _⟩
                rw [HV.out]
                exact World.ownsRow_nil _ _ _ _
              · rw [hc] at HV
                unfold asV
                go_wp2_with fail
                refine bodyPost_ret (v := .tuple #[.agg #[.slice (some ⟨w1.heap.size, 0, none⟩) k k], .bool true]) (by unfold results; rw [Try.results4]; go_simp) rfl ?_
                refine ⟨_, by rw [HV.out]; rfl, ?_, B7.out.setCell (p := ⟨w.heap.size, 0, none⟩) (Nat.le_refl _) _⟩
                rw [HV.out]
                unfold Ow
                rw [List.length_map]
                show World.ownsRow _ _ _ _ _ L.length (L.map _)
                rw [hlong]
                exact OW7.out

end Go.Proofs.Ytcjgadepbbcjeaa
