/-
  Contract: points of bits, of the program.
  Conditions: lengths at most 1048576.
-/
import Derived.Test.YtiifpfiibbkobaaPN
namespace Go.Proofs.Ytiifpfiibbkobaa
open Go.RowKit Go.Shelf
attribute [local go_sem] Oper.semAt_some

theorem ptK_all (bs : List Bool) {N : Nat} (l : List (Part N)) (h : l.map (·.1) = List.range N) : l.map (fun x => cV (ptAt bs x.1)) = (ptK bs N).map cV := by
  unfold ptK
  rw [← h, List.map_map, List.map_map]
  rfl
theorem one_fin : finB (fl .f32 1065353216) = true := by decide
theorem infoC64S : (Try.prog.info? 23).map (fun i => (i.zero, i.size, i.bytes)) = some (some (.slice none 0 0), 1, 24) := by kernel_rfl


set_option maxRecDepth 100000 in
set_option maxHeartbeats 8000000 in
theorem impl_PointsOf_c0 (w : World) (A : Option Addr) (n cap : Nat) (bs : List Bool) (hl : bs.length = n) (hn : n ≤ 1048576) (hx : Sl w w.heap.size A (bs.map Value.bool)) :
    Calls Try.prog 6 #[.slice A n cap] w (PtsPost w bs) := by
  have HV := Lib.hid (impl_SoftOf_c w A n cap bs hl hn hx 1065353216)
  clear hx
  have hmod : ((n : Int)).tmod 2 = ((n % 2 : Nat) : Int) := by rw [Int.tmod_eq_emod_of_nonneg (by omega)]; push_cast; rfl
  by_cases h1 : n ≤ 160
  · have hso : softOkB n 1065353216 = true := by unfold softOkB; rw [decide_eq_true h1, one_fin]; rfl
    have hsl : softOfL bs 1065353216 = bs.map sgB := by
      unfold softOfL
      rw [hl, hso, if_pos rfl]
      exact List.map_congr_left fun b _ => softSign_sg b
    rw [hso, hsl] at HV
    by_cases hr0 : n % 2 = 0
    · have hok : ptsOk bs = true := by unfold ptsOk; rw [hl, decide_eq_true h1, hr0]; rfl
      have hch : chN 2 n = n / 2 := by unfold chN; omega
      have hL : ptsL bs = ptK bs (n / 2) := by unfold ptsL; rw [hok, if_pos rfl, hl]
      have hm' : ((n : Int)).tmod 2 = 0 := by rw [hmod, hr0]; rfl
      have HOK := Lib.hid hok
      have HL := Lib.hid hL
      have HCH := Lib.hid hch
      have HE := Lib.hid hr0
      clear hok hL hch hso hsl hmod hr0
      refine calls_marks Try.func6 rfl ?_
      simp only [Try.ntmps6, List.size_toArray, List.length_cons, List.length_nil, Nat.reduceAdd, Nat.reduceSub, Array.replicate_succ, Array.replicate_zero, List.push_toArray, List.append_toArray, List.nil_append, List.cons_append]
      go_wp2_with fail
      refine HV.out.mono ?_
      rintro e w2 ⟨vs, rfl, hos, hb2⟩
      obtain ⟨AS, kS, rfl, hpS⟩ := hos.opn
      have hlS : (bs.map sgB).length = n := by rw [List.length_map, hl]
      rw [hlS] at hpS ⊢
      have hAS : (AS = none ∧ n = 0 ∧ kS = 0) ∨ ∃ g, AS = some ⟨g, 0, none⟩ ∧ n ≤ kS ∧ kS ≤ maxLen := by
        rcases hpS.2 with ⟨h2, h3⟩ | ⟨g, c, cur, h2, _, _, h3, h4, _⟩
        · injection h2 with e1 e2 e3
          exact .inl ⟨e1, e2, e3⟩
        · injection h2 with e1 e2 e3
          subst e3
          exact .inr ⟨g, e1, h3, h4⟩
      obtain ⟨gA, hCA, hc1, hc2, hc3⟩ : ∃ g, ChA AS g 0 n ∧ n ≤ kS ∧ kS ≤ 9223372036854775807 ∧ (AS = none → kS = 0) := by
        rcases hAS with ⟨rfl, rfl, rfl⟩ | ⟨g, rfl, h3, h4⟩
        · exact ⟨0, .inr ⟨rfl, rfl⟩, Nat.le_refl _, by decide, fun _ => rfl⟩
        · exact ⟨g, .inl rfl, h3, by unfold maxLen at h4; omega, fun h => by cases h⟩
      have HPS := Lib.hid hpS
      have z2 := hb2.size
      obtain ⟨w4, e4⟩ : ∃ q : World, q = (w2.alloc (.cells #[] 32)).alloc (.cells #[.slice (some ⟨w2.heap.size, 0, none⟩) 0 0] 23) := ⟨_, rfl⟩
      have hbf4 : Bufd w4 w2.heap.size (w2.heap.size + 1) 23 32 [] := by
        have h3 := own_empty w2 w2.heap.size 32 (Nat.le_refl _)
        have h4 := Boxed.new (w2.alloc (.cells #[] 32)) 23 (.slice (some ⟨w2.heap.size, 0, none⟩) 0 0)
        rw [World.size_alloc] at h4
        rw [e4]
        exact ⟨_, h4, World.ownsRow.alloc h3 _, _, _, rfl⟩
      have b4 : Below w2.heap.size w2 w4 := by rw [e4]; exact ((Below.refl _ _).alloc (Nat.le_refl _) _).alloc (by simp) _
      have z4 : w4.heap.size = w2.heap.size + 1 + 1 := by rw [e4]; simp
      clear hos hpS hlS hAS
      go_wp2_with (first | (rw [← e4]; clear e4) | (go_at_call 14; refine ((callsIn_wide (n := 3)).1 (Chunk_float32_in 3 AS n kS 2 (by decide) _)).mono ?_; rintro e w5 ⟨rfl, rfl⟩))
      have hbx1 := Boxed.new w4 35 (.slice AS n kS)
      have hbx2 := Boxed.new (w4.alloc (.cells #[.slice AS n kS] 35)) 3 (.int .i64 2)
      rw [World.size_alloc] at hbx2
      rw [z4] at hbx1 hbx2
      obtain ⟨w5, e5⟩ : ∃ q : World, q = (w4.alloc (.cells #[.slice AS n kS] 35)).alloc (.cells #[.int .i64 2] 3) := ⟨_, rfl⟩
      have z5 : w5.heap.size = w4.heap.size + 2 := by rw [e5]; simp
      have X1 : Boxed w5 (w2.heap.size + 1 + 1) 35 (.slice AS n kS) := by rw [e5]; exact hbx1.alloc _
      have X2 : Boxed w5 (w2.heap.size + 1 + 1 + 1) 3 (.int .i64 2) := by rw [e5]; exact hbx2
      have hbf5 : Bufd w5 w2.heap.size (w2.heap.size + 1) 23 32 [] := by
        rw [e5]
        obtain ⟨v, k1, k2, k3⟩ := hbf4
        exact ⟨v, (k1.alloc _).alloc _, World.ownsRow.alloc (World.ownsRow.alloc k2 _) _, k3⟩
      have b5 : Below w2.heap.size w2 w5 := by
        rw [e5]
        exact (b4.alloc (by omega) _).alloc (by simp; omega) _
      rw [← e5]
      clear e5 hbx1 hbx2 hbf4 b4
      refine wp_chunk_float32' 24 7 (w2.heap.size + 1 + 1) (w2.heap.size + 1 + 1 + 1) gA 0 n kS 2 AS rfl rfl hCA (by decide) (by decide) hn hc1 hc2 hc3 (by omega) (by omega) X1.cell X2.cell
        (fun pre W => (Bufd W w2.heap.size (w2.heap.size + 1) 23 32 (pre.map fun x => cV (ptAt bs x.1)) ∧ Boxed W (w2.heap.size + 1 + 1) 35 (.slice AS n kS) ∧ Boxed W (w2.heap.size + 1 + 1 + 1) 3 (.int .i64 2)) ∧ Below w2.heap.size w2 W)
        (loopI_own w2.heap.size _ _ _ _ _ _ _ _ _ _ w2 _ (by omega) (by omega)) ⟨⟨hbf5, X1, X2⟩, b5⟩ ?assign ?body ?done
      case assign =>
        intro l x W K hK
        gi_wp2
        exact hK
      case body =>
        rintro l pre x W ⟨⟨hbf, hq1, hq2⟩, hBW⟩ hlp
        obtain ⟨P, hP⟩ : ∃ P, 2 * x.1 = P := ⟨_, rfl⟩
        have hxN : x.1 < n / 2 := by have h2 : x.1 < chN 2 n := x.2; have h3 : chN 2 n = n / 2 := HCH.out; omega
        have hPn : P + 1 < n := by omega
        have hcv : chV gA 0 2 n x.1 = .slice (some ⟨gA, P, none⟩) 2 2 := by
          unfold chV
          have he := HE.out
          rw [hP, Nat.zero_add, show min 2 (n - P) = 2 by omega]
        rw [hcv]
        simp only [List.setIfInBounds_toArray, List.set_cons_succ, List.set_cons_zero]
        have hAS : AS = some ⟨gA, 0, none⟩ := by
          rcases hCA with h | ⟨_, h⟩
          · exact h
          · omega
        obtain ⟨bx, ebx⟩ : ∃ q, bs.getD (2 * x.1) false = q := ⟨_, rfl⟩
        obtain ⟨by_, eby⟩ : ∃ q, bs.getD (2 * x.1 + 1) false = q := ⟨_, rfl⟩
        have hpt : cV (ptAt bs x.1) = cV (sgB bx, sgB by_) := by unfold ptAt; rw [ebx, eby]
        have hcell : ∀ (k : Nat) (q : Bool), k < n → bs.getD k false = q → W.cell? ⟨gA, k, none⟩ = some (.float .f32 (sgB q)) := fun k q hk hq => by
          have hps := HPS.out
          rw [hAS] at hps
          have h2 := World.ownsRow.cellAt (own_below hps hBW (by omega)) k (by omega)
          have h3 : k < bs.length := by omega
          have h4 : bs[k] = q := by rw [← hq]; simp [List.getD, h3]
          rw [h2, List.map_map, List.getElem?_map, List.getElem?_eq_getElem h3, h4]
          rfl
        have ca := hcell P bx (by omega) (by rw [← hP]; exact ebx)
        have cb := hcell (P + 1) by_ hPn (by rw [← hP]; exact eby)
        obtain ⟨v5, k1, k2, g5, cap5, rfl⟩ := hbf
        have hpl : pre.length ≤ 80 := by
          have h3 : chN 2 n = n / 2 := HCH.out
          omega
        have hcb := k1.cell
        have hfb := k1.frozen
        have hlen0 : (pre.map fun x => cV (ptAt bs x.1)).length = pre.length := List.length_map _
        rw [hlen0] at k1 k2 hcb
        have hsn : (pre ++ [x]).map (fun x => cV (ptAt bs x.1)) = (pre.map fun x => cV (ptAt bs x.1)) ++ [cV (sgB bx, sgB by_)] := by rw [List.map_append, List.map_cons, List.map_nil, hpt]
        obtain ⟨L, eL⟩ : ∃ L, (pre.map fun x => cV (ptAt bs x.1)) = L := ⟨_, rfl⟩
        rw [eL] at k2 hsn hlen0
        obtain ⟨N0, eN⟩ : ∃ N0, pre.length = N0 := ⟨_, rfl⟩
        rw [eN] at k1 k2 hcb hpl hlen0
        have HSN := Lib.hid hsn
        have hlen : L.length + 1 ≤ 1099511627776 := by omega
        have hDW : w2.heap.size ≤ W.heap.size := Nat.le_trans (by omega) hBW.size
        have h9 : (L ++ [cV (sgB bx, sgB by_)]).length = N0 + 1 := by rw [List.length_append, hlen0]; rfl
        have hrow9 : ∀ (v6 : Value) (w6 : World), Ow w6 w2.heap.size 32 v6 (L ++ [cV (sgB bx, sgB by_)]) → w6.ownsRow w2.heap.size 32 1 v6 (N0 + 1) (L ++ [cV (sgB bx, sgB by_)]) := fun v6 w6 h => by
          unfold Ow at h
          rw [h9] at h
          exact h
        have HAPP := Lib.hid (fun (v6 : Value) (w6 : World) (ho6 : Ow w6 w2.heap.size 32 v6 (L ++ [cV (sgB bx, sgB by_)])) (hg6 : ((W.alloc (.cells #[cV (sgB bx, sgB by_)] 32)).drew).grownBy w6 (Value.slice (some ⟨g5, 0, none⟩) N0 cap5).ownBlock) =>
          appd_of (w1 := w6) (v' := v6) (N := N0 + 1) (ys := L ++ [cV (sgB bx, sgB by_)]) (show Boxed W.drew (w2.heap.size + 1) 23 _ from k1) (by decide) (show W.drew.ownsRow w2.heap.size 32 1 _ N0 L from k2) (show w2.heap.size ≤ W.drew.heap.size from hDW) (by omega) (show W.drew.grownBy ((W.alloc (.cells #[cV (sgB bx, sgB by_)] 32)).drew) none from (fun g => ⟨g.os, g.tape, g.output, g.size, g.block⟩) (World.grownBy_alloc W (.cells #[cV (sgB bx, sgB by_)] 32) none)) rfl (hrow9 _ _ ho6) hg6 (by omega))
        have HEND := Lib.hid (fun (v6 : Value) (w6 : World) (N6 : Nat) (hA : Appd W.drew w6 w2.heap.size (w2.heap.size + 1) 23 32 (.slice (some ⟨g5, 0, none⟩) N0 cap5) v6 N6 (L ++ [cV (sgB bx, sgB by_)])) => (show KeepsFrom w5.heap.size W (w6.setCell ⟨w2.heap.size + 1, 0, none⟩ v6) ∧ KpB (w2.heap.size + 1 + 1) (w2.heap.size + 1 + 1 + 1) W (w6.setCell ⟨w2.heap.size + 1, 0, none⟩ v6) ∧ ((Bufd (w6.setCell ⟨w2.heap.size + 1, 0, none⟩ v6) w2.heap.size (w2.heap.size + 1) 23 32 ((pre ++ [x]).map fun x => cV (ptAt bs x.1)) ∧ Boxed (w6.setCell ⟨w2.heap.size + 1, 0, none⟩ v6) (w2.heap.size + 1 + 1) 35 (.slice AS n kS) ∧ Boxed (w6.setCell ⟨w2.heap.size + 1, 0, none⟩ v6) (w2.heap.size + 1 + 1 + 1) 3 (.int .i64 2)) ∧ Below w2.heap.size w2 (w6.setCell ⟨w2.heap.size + 1, 0, none⟩ v6)) from by
          have q1 := hA.box (show W.drew.ownsRow w2.heap.size 32 1 _ N0 L from k2) (show Boxed W.drew _ _ _ from hq1) (by decide) (by omega)
          have q2 := hA.box (show W.drew.ownsRow w2.heap.size 32 1 _ N0 L from k2) (show Boxed W.drew _ _ _ from hq2) (by decide) (by omega)
          have hK : KeepsOthers W (w6.setCell ⟨w2.heap.size + 1, 0, none⟩ v6) := (KeepsOthers.drew W).trans hA.oth
          refine ⟨hK.from _, ⟨q1.trans hq1.symm, q2.trans hq2.symm⟩, ⟨?_, q1, q2⟩, hBW.trans ⟨hA.bel.os, hA.bel.tape, hA.bel.output, hA.bel.size, hA.bel.block⟩⟩
          rw [HSN.out]
          exact hA.buf))
        have hown0 : Ow W w2.heap.size 32 (.slice (some ⟨g5, 0, none⟩) N0 cap5) L := by
          unfold Ow
          rw [hlen0]
          exact k2
        have HROW := Lib.hid (show Ow ((W.alloc (.cells #[cV (sgB bx, sgB by_)] 32)).drew) w2.heap.size 32 (.slice (some ⟨g5, 0, none⟩) N0 cap5) L from World.ownsRow.alloc hown0 _)
        have HDB := Lib.hid (show w2.heap.size ≤ ((W.alloc (.cells #[cV (sgB bx, sgB by_)] 32)).drew).heap.size from by show w2.heap.size ≤ (World.alloc _ _).heap.size; simp; omega)
        have qa : (W.alloc (.cells #[.complex .f32 (sgB bx) (sgB by_)] 32)).cell? ⟨w2.heap.size + 1, 0, none⟩ = some (.slice (some ⟨g5, 0, none⟩) N0 cap5) := (k1.alloc _).cell
        clear h9 hrow9 hcell ebx eby hpt hP hcv hxN hlp hq1 hq2 k2 hown0 eL eN hsn hBW
        gi_wp2_with fail
        refine roundRegion (by kernel_rfl) (by decide) (by rintro ⟨a, w, h⟩; exact h) ?_
        change wpAny _ _ _ _ _ _ _ (World.drew _)
        refine wpAny_take (i := 1) (v := .slice (some ⟨gA, P, none⟩) 2 2) rfl (by kernel_rfl) (by kernel_rfl) (by kernel_rfl) (fun _ _ _ h => h) (Or.inl ⟨by rfl, fun w' => by go_simp⟩) ?_
        refine wpAny_take (i := 2) (v := .pointer (some ⟨gA, P, none⟩)) rfl (by kernel_rfl) (by kernel_rfl) (by kernel_rfl) (fun _ _ _ h => h) (Or.inl ⟨by rfl, fun w' => by go_simp⟩) ?_
        refine wpAny_take (i := 4) (v := .slice (some ⟨gA, P, none⟩) 2 2) rfl (by kernel_rfl) (by kernel_rfl) (by kernel_rfl) (fun _ _ _ h => h) (Or.inl ⟨by rfl, fun w' => by go_simp⟩) ?_
        refine wpAny_take (i := 5) (v := .pointer (some ⟨gA, P + 1, none⟩)) rfl (by kernel_rfl) (by kernel_rfl) (by kernel_rfl) (fun _ _ _ h => h) (Or.inl ⟨by rfl, fun w' => by go_simp⟩) ?_
        refine wpAny_ready (rs := [0, 3, 6]) (by kernel_rfl) (by simp) ?_
        refine AllReady.cons rfl (fun K hK => ?_) ?_
        · go_simp
          refine hK _ _ ?_
          clear hK K
          refine wpAny_ready (rs := [3, 6]) (by kernel_rfl) (by simp) ?_
          refine AllReady.cons rfl (fun K hK => ?_) ?_
          · go_simp
            refine hK _ _ ?_
            clear hK K
            refine wpAny_ready (rs := [6]) (by kernel_rfl) (by simp) ?_
            refine AllReady.cons rfl (fun K hK => ?_) ?_
            · go_simp
              refine hK _ _ ?_
              clear hK K
              refine wpAny_take (i := 7) (v := .complex .f32 (sgB bx) (sgB by_)) rfl (by kernel_rfl) (by kernel_rfl) (by kernel_rfl) (fun _ _ _ h => h) (Or.inl ⟨by rfl, fun w' => by go_simp⟩) ?_
              refine wpAny_ready (rs := [8]) (by kernel_rfl) (by simp) ?_
              refine AllReady.cons rfl (fun K hK => ?_) ?_
              · go_simp
                refine hK _ _ ?_
                clear hK K
                refine wpAny_ready (rs := [9]) (by kernel_rfl) (by simp) ?_
                refine AllReady.cons rfl (fun K hK => ?_) ?_
                · refine step_app1 Try.underlying23 infoC64 rfl (by decide) (by rfl) _ _ (by rfl) w2.heap.size (.slice (some ⟨g5, 0, none⟩) N0 cap5) _ (by rfl) HROW.out _ _ (cV (sgB bx, sgB by_)) (by rfl) (cell_new1 _ _ _) rfl hlen HDB.out ?_
                  intro v6 w6 ho6 hg6
                  have hA := HAPP.out _ _ ho6 hg6
                  have c6 := hA.old.cell
                  have f6 := hA.old.frozen
                  obtain ⟨g6, cap6, rfl⟩ := hA.form
                  refine hK _ _ ?_
                  clear hK K
                  refine wpAny_ready (rs := [10]) (by kernel_rfl) (by simp) ?_
                  refine AllReady.cons rfl (fun K hK => ?_) ?_
                  · go_simp
                    refine hK _ _ ?_
                    clear hK K
                    refine wpAny_done (by kernel_rfl) ?_ _
                    exact HEND.out _ _ _ hA
                  exact AllReady.nil
                exact AllReady.nil
              exact AllReady.nil
            exact AllReady.nil
          refine AllReady.cons rfl (fun K hK => ?_) ?_
          · go_simp
            refine hK _ _ ?_
            clear hK K
            refine wpAny_ready (rs := [3]) (by kernel_rfl) (by simp) ?_
            refine AllReady.cons rfl (fun K hK => ?_) ?_
            · go_simp
              refine hK _ _ ?_
              clear hK K
              refine wpAny_take (i := 7) (v := .complex .f32 (sgB bx) (sgB by_)) rfl (by kernel_rfl) (by kernel_rfl) (by kernel_rfl) (fun _ _ _ h => h) (Or.inl ⟨by rfl, fun w' => by go_simp⟩) ?_
              refine wpAny_ready (rs := [8]) (by kernel_rfl) (by simp) ?_
              refine AllReady.cons rfl (fun K hK => ?_) ?_
              · go_simp
                refine hK _ _ ?_
                clear hK K
                refine wpAny_ready (rs := [9]) (by kernel_rfl) (by simp) ?_
                refine AllReady.cons rfl (fun K hK => ?_) ?_
                · refine step_app1 Try.underlying23 infoC64 rfl (by decide) (by rfl) _ _ (by rfl) w2.heap.size (.slice (some ⟨g5, 0, none⟩) N0 cap5) _ (by rfl) HROW.out _ _ (cV (sgB bx, sgB by_)) (by rfl) (cell_new1 _ _ _) rfl hlen HDB.out ?_
                  intro v6 w6 ho6 hg6
                  have hA := HAPP.out _ _ ho6 hg6
                  have c6 := hA.old.cell
                  have f6 := hA.old.frozen
                  obtain ⟨g6, cap6, rfl⟩ := hA.form
                  refine hK _ _ ?_
                  clear hK K
                  refine wpAny_ready (rs := [10]) (by kernel_rfl) (by simp) ?_
                  refine AllReady.cons rfl (fun K hK => ?_) ?_
                  · go_simp
                    refine hK _ _ ?_
                    clear hK K
                    refine wpAny_done (by kernel_rfl) ?_ _
                    exact HEND.out _ _ _ hA
                  exact AllReady.nil
                exact AllReady.nil
              exact AllReady.nil
            exact AllReady.nil
          exact AllReady.nil
        refine AllReady.cons rfl (fun K hK => ?_) ?_
        · go_simp
          refine hK _ _ ?_
          clear hK K
          refine wpAny_ready (rs := [0, 6]) (by kernel_rfl) (by simp) ?_
          refine AllReady.cons rfl (fun K hK => ?_) ?_
          · go_simp
            refine hK _ _ ?_
            clear hK K
            refine wpAny_ready (rs := [6]) (by kernel_rfl) (by simp) ?_
            refine AllReady.cons rfl (fun K hK => ?_) ?_
            · go_simp
              refine hK _ _ ?_
              clear hK K
              refine wpAny_take (i := 7) (v := .complex .f32 (sgB bx) (sgB by_)) rfl (by kernel_rfl) (by kernel_rfl) (by kernel_rfl) (fun _ _ _ h => h) (Or.inl ⟨by rfl, fun w' => by go_simp⟩) ?_
              refine wpAny_ready (rs := [8]) (by kernel_rfl) (by simp) ?_
              refine AllReady.cons rfl (fun K hK => ?_) ?_
              · go_simp
                refine hK _ _ ?_
                clear hK K
                refine wpAny_ready (rs := [9]) (by kernel_rfl) (by simp) ?_
                refine AllReady.cons rfl (fun K hK => ?_) ?_
                · refine step_app1 Try.underlying23 infoC64 rfl (by decide) (by rfl) _ _ (by rfl) w2.heap.size (.slice (some ⟨g5, 0, none⟩) N0 cap5) _ (by rfl) HROW.out _ _ (cV (sgB bx, sgB by_)) (by rfl) (cell_new1 _ _ _) rfl hlen HDB.out ?_
                  intro v6 w6 ho6 hg6
                  have hA := HAPP.out _ _ ho6 hg6
                  have c6 := hA.old.cell
                  have f6 := hA.old.frozen
                  obtain ⟨g6, cap6, rfl⟩ := hA.form
                  refine hK _ _ ?_
                  clear hK K
                  refine wpAny_ready (rs := [10]) (by kernel_rfl) (by simp) ?_
                  refine AllReady.cons rfl (fun K hK => ?_) ?_
                  · go_simp
                    refine hK _ _ ?_
                    clear hK K
                    refine wpAny_done (by kernel_rfl) ?_ _
                    exact HEND.out _ _ _ hA
                  exact AllReady.nil
                exact AllReady.nil
              exact AllReady.nil
            exact AllReady.nil
          refine AllReady.cons rfl (fun K hK => ?_) ?_
          · go_simp
            refine hK _ _ ?_
            clear hK K
            refine wpAny_take (i := 7) (v := .complex .f32 (sgB bx) (sgB by_)) rfl (by kernel_rfl) (by kernel_rfl) (by kernel_rfl) (fun _ _ _ h => h) (Or.inl ⟨by rfl, fun w' => by go_simp⟩) ?_
            refine wpAny_ready (rs := [0, 8]) (by kernel_rfl) (by simp) ?_
            refine AllReady.cons rfl (fun K hK => ?_) ?_
            · go_simp
              refine hK _ _ ?_
              clear hK K
              refine wpAny_ready (rs := [8]) (by kernel_rfl) (by simp) ?_
              refine AllReady.cons rfl (fun K hK => ?_) ?_
              · go_simp
                refine hK _ _ ?_
                clear hK K
                refine wpAny_ready (rs := [9]) (by kernel_rfl) (by simp) ?_
                refine AllReady.cons rfl (fun K hK => ?_) ?_
                · refine step_app1 Try.underlying23 infoC64 rfl (by decide) (by rfl) _ _ (by rfl) w2.heap.size (.slice (some ⟨g5, 0, none⟩) N0 cap5) _ (by rfl) HROW.out _ _ (cV (sgB bx, sgB by_)) (by rfl) (cell_new1 _ _ _) rfl hlen HDB.out ?_
                  intro v6 w6 ho6 hg6
                  have hA := HAPP.out _ _ ho6 hg6
                  have c6 := hA.old.cell
                  have f6 := hA.old.frozen
                  obtain ⟨g6, cap6, rfl⟩ := hA.form
                  refine hK _ _ ?_
                  clear hK K
                  refine wpAny_ready (rs := [10]) (by kernel_rfl) (by simp) ?_
                  refine AllReady.cons rfl (fun K hK => ?_) ?_
                  · go_simp
                    refine hK _ _ ?_
                    clear hK K
                    refine wpAny_done (by kernel_rfl) ?_ _
                    exact HEND.out _ _ _ hA
                  exact AllReady.nil
                exact AllReady.nil
              exact AllReady.nil
            refine AllReady.cons rfl (fun K hK => ?_) ?_
            · go_simp
              refine hK _ _ ?_
              clear hK K
              refine wpAny_ready (rs := [0]) (by kernel_rfl) (by simp) ?_
              refine AllReady.cons rfl (fun K hK => ?_) ?_
              · go_simp
                refine hK _ _ ?_
                clear hK K
                refine wpAny_ready (rs := [9]) (by kernel_rfl) (by simp) ?_
                refine AllReady.cons rfl (fun K hK => ?_) ?_
                · refine step_app1 Try.underlying23 infoC64 rfl (by decide) (by rfl) _ _ (by rfl) w2.heap.size (.slice (some ⟨g5, 0, none⟩) N0 cap5) _ (by rfl) HROW.out _ _ (cV (sgB bx, sgB by_)) (by rfl) (cell_new1 _ _ _) rfl hlen HDB.out ?_
                  intro v6 w6 ho6 hg6
                  have hA := HAPP.out _ _ ho6 hg6
                  have c6 := hA.old.cell
                  have f6 := hA.old.frozen
                  obtain ⟨g6, cap6, rfl⟩ := hA.form
                  refine hK _ _ ?_
                  clear hK K
                  refine wpAny_ready (rs := [10]) (by kernel_rfl) (by simp) ?_
                  refine AllReady.cons rfl (fun K hK => ?_) ?_
                  · go_simp
                    refine hK _ _ ?_
                    clear hK K
                    refine wpAny_done (by kernel_rfl) ?_ _
                    exact HEND.out _ _ _ hA
                  exact AllReady.nil
                exact AllReady.nil
              exact AllReady.nil
            exact AllReady.nil
          exact AllReady.nil
        refine AllReady.cons rfl (fun K hK => ?_) ?_
        · go_simp
          refine hK _ _ ?_
          clear hK K
          refine wpAny_ready (rs := [0, 3]) (by kernel_rfl) (by simp) ?_
          refine AllReady.cons rfl (fun K hK => ?_) ?_
          · go_simp
            refine hK _ _ ?_
            clear hK K
            refine wpAny_ready (rs := [3]) (by kernel_rfl) (by simp) ?_
            refine AllReady.cons rfl (fun K hK => ?_) ?_
            · go_simp
              refine hK _ _ ?_
              clear hK K
              refine wpAny_take (i := 7) (v := .complex .f32 (sgB bx) (sgB by_)) rfl (by kernel_rfl) (by kernel_rfl) (by kernel_rfl) (fun _ _ _ h => h) (Or.inl ⟨by rfl, fun w' => by go_simp⟩) ?_
              refine wpAny_ready (rs := [8]) (by kernel_rfl) (by simp) ?_
              refine AllReady.cons rfl (fun K hK => ?_) ?_
              · go_simp
                refine hK _ _ ?_
                clear hK K
                refine wpAny_ready (rs := [9]) (by kernel_rfl) (by simp) ?_
                refine AllReady.cons rfl (fun K hK => ?_) ?_
                · refine step_app1 Try.underlying23 infoC64 rfl (by decide) (by rfl) _ _ (by rfl) w2.heap.size (.slice (some ⟨g5, 0, none⟩) N0 cap5) _ (by rfl) HROW.out _ _ (cV (sgB bx, sgB by_)) (by rfl) (cell_new1 _ _ _) rfl hlen HDB.out ?_
                  intro v6 w6 ho6 hg6
                  have hA := HAPP.out _ _ ho6 hg6
                  have c6 := hA.old.cell
                  have f6 := hA.old.frozen
                  obtain ⟨g6, cap6, rfl⟩ := hA.form
                  refine hK _ _ ?_
                  clear hK K
                  refine wpAny_ready (rs := [10]) (by kernel_rfl) (by simp) ?_
                  refine AllReady.cons rfl (fun K hK => ?_) ?_
                  · go_simp
                    refine hK _ _ ?_
                    clear hK K
                    refine wpAny_done (by kernel_rfl) ?_ _
                    exact HEND.out _ _ _ hA
                  exact AllReady.nil
                exact AllReady.nil
              exact AllReady.nil
            exact AllReady.nil
          refine AllReady.cons rfl (fun K hK => ?_) ?_
          · go_simp
            refine hK _ _ ?_
            clear hK K
            refine wpAny_take (i := 7) (v := .complex .f32 (sgB bx) (sgB by_)) rfl (by kernel_rfl) (by kernel_rfl) (by kernel_rfl) (fun _ _ _ h => h) (Or.inl ⟨by rfl, fun w' => by go_simp⟩) ?_
            refine wpAny_ready (rs := [0, 8]) (by kernel_rfl) (by simp) ?_
            refine AllReady.cons rfl (fun K hK => ?_) ?_
            · go_simp
              refine hK _ _ ?_
              clear hK K
              refine wpAny_ready (rs := [8]) (by kernel_rfl) (by simp) ?_
              refine AllReady.cons rfl (fun K hK => ?_) ?_
              · go_simp
                refine hK _ _ ?_
                clear hK K
                refine wpAny_ready (rs := [9]) (by kernel_rfl) (by simp) ?_
                refine AllReady.cons rfl (fun K hK => ?_) ?_
                · refine step_app1 Try.underlying23 infoC64 rfl (by decide) (by rfl) _ _ (by rfl) w2.heap.size (.slice (some ⟨g5, 0, none⟩) N0 cap5) _ (by rfl) HROW.out _ _ (cV (sgB bx, sgB by_)) (by rfl) (cell_new1 _ _ _) rfl hlen HDB.out ?_
                  intro v6 w6 ho6 hg6
                  have hA := HAPP.out _ _ ho6 hg6
                  have c6 := hA.old.cell
                  have f6 := hA.old.frozen
                  obtain ⟨g6, cap6, rfl⟩ := hA.form
                  refine hK _ _ ?_
                  clear hK K
                  refine wpAny_ready (rs := [10]) (by kernel_rfl) (by simp) ?_
                  refine AllReady.cons rfl (fun K hK => ?_) ?_
                  · go_simp
                    refine hK _ _ ?_
                    clear hK K
                    refine wpAny_done (by kernel_rfl) ?_ _
                    exact HEND.out _ _ _ hA
                  exact AllReady.nil
                exact AllReady.nil
              exact AllReady.nil
            refine AllReady.cons rfl (fun K hK => ?_) ?_
            · go_simp
              refine hK _ _ ?_
              clear hK K
              refine wpAny_ready (rs := [0]) (by kernel_rfl) (by simp) ?_
              refine AllReady.cons rfl (fun K hK => ?_) ?_
              · go_simp
                refine hK _ _ ?_
                clear hK K
                refine wpAny_ready (rs := [9]) (by kernel_rfl) (by simp) ?_
                refine AllReady.cons rfl (fun K hK => ?_) ?_
                · refine step_app1 Try.underlying23 infoC64 rfl (by decide) (by rfl) _ _ (by rfl) w2.heap.size (.slice (some ⟨g5, 0, none⟩) N0 cap5) _ (by rfl) HROW.out _ _ (cV (sgB bx, sgB by_)) (by rfl) (cell_new1 _ _ _) rfl hlen HDB.out ?_
                  intro v6 w6 ho6 hg6
                  have hA := HAPP.out _ _ ho6 hg6
                  have c6 := hA.old.cell
                  have f6 := hA.old.frozen
                  obtain ⟨g6, cap6, rfl⟩ := hA.form
                  refine hK _ _ ?_
                  clear hK K
                  refine wpAny_ready (rs := [10]) (by kernel_rfl) (by simp) ?_
                  refine AllReady.cons rfl (fun K hK => ?_) ?_
                  · go_simp
                    refine hK _ _ ?_
                    clear hK K
                    refine wpAny_done (by kernel_rfl) ?_ _
                    exact HEND.out _ _ _ hA
                  exact AllReady.nil
                exact AllReady.nil
              exact AllReady.nil
            exact AllReady.nil
          exact AllReady.nil
        exact AllReady.nil
      case done =>
        rintro Dd ys W hDd hys ⟨⟨hbf, _, _⟩, hBW⟩ hK
        rw [ptK_all bs ys hys, HCH.out] at hbf
        obtain ⟨v5, k1, k2, g5, cap5, rfl⟩ := hbf
        rw [List.length_map] at k1 k2
        have hc := k1.cell
        have HK2 := Lib.hid k2
        clear k2 hys
        go_wp2
        refine marks_ret1 rfl hK (results_tmp2 rfl _ _ _) ?_
        refine ⟨_, by rw [HOK.out]; rfl, ?_, (hb2.trans (hBW.mono z2)).trans (belowK_b (w := w) (Nat.le_refl _) _ Dd _ _ (by omega) hK rfl rfl)⟩
        rw [HL.out]
        unfold Ow
        rw [List.length_map]
        exact own_base (ownsRow_putObj HK2.out _ hK rfl) z2
    · have hok : ptsOk bs = false := by
        unfold ptsOk
        rw [hl]
        simp [hr0]
      have HOK := Lib.hid hok
      have hm' : ((n : Int)).tmod 2 = 1 := by rw [hmod, show n % 2 = 1 by omega]; rfl
      clear hok hmod hr0 hso hsl
      refine calls_marks Try.func6 rfl ?_
      simp only [Try.ntmps6, List.size_toArray, List.length_cons, List.length_nil, Nat.reduceAdd, Nat.reduceSub, Array.replicate_succ, Array.replicate_zero, List.push_toArray, List.append_toArray, List.nil_append, List.cons_append]
      go_wp2_with fail
      refine HV.out.mono ?_
      rintro e w2 ⟨vs, rfl, hos, hb2⟩
      go_wp2
      refine marks_ret0 (results_tmp2 rfl _ _ _) rfl ?_
      exact pts_fail HOK.out hb2
  · have hok : ptsOk bs = false := by
      unfold ptsOk
      rw [hl, decide_eq_false h1]
      rfl
    have hso : softOkB n 1065353216 = false := by unfold softOkB; rw [decide_eq_false h1]; rfl
    rw [hso] at HV
    have HOK := Lib.hid hok
    clear hok hmod hso
    refine calls_marks Try.func6 rfl ?_
    simp only [Try.ntmps6, List.size_toArray, List.length_cons, List.length_nil, Nat.reduceAdd, Nat.reduceSub, Array.replicate_succ, Array.replicate_zero, List.push_toArray, List.append_toArray, List.nil_append, List.cons_append]
    go_wp2_with fail
    refine HV.out.mono ?_
    rintro e w2 ⟨vs, rfl, hos, hb2⟩
    go_wp2
    refine marks_ret0 (results_tmp2 rfl _ _ _) rfl ?_
    exact pts_fail HOK.out hb2

end Go.Proofs.Ytiifpfiibbkobaa
