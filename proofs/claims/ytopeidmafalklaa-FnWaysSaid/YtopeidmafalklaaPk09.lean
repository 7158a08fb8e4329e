/-
  Contract: points of bits, of the program.
  Conditions: lengths at most 1048576.
  Contracts of the laws' helpers for points, and points of bits as lists of pairs.
  Conditions: at most 80 points.
  Contract: soft numbers of points of bits, of the program, at the noise one half.
  Conditions: at most 80 points.
  Contracts of the laws' helpers for rows of rows of numbers of single precision.
  Conditions: lengths at most 1048576 where rows are copied.
  Contracts of the laws' helpers for rows of rows of bits that a call has made: marked, and looked at again.
  Conditions: at most 8 rows of at most 1048576 bits.
  Contracts: the best ways of lists, of the program and of the reference.
  Conditions: lengths at most 1048576.
  FnWays: what stands behind the ways that are shared.
  Conditions: as the theorem says.
  FnWays: what stands behind the ways that are shared.
  Conditions: as the theorem says.
  FnWays returns true for every input, and leaves its arguments as they were.
  Conditions: none beyond the given statement's own.
-/
import Derived.Test.YtopeidmafalklaaPk08
import Derived.Laws.ComplexArith
import Derived.Deep.QuietTactic
import Derived.BigQuiet
import Derived.Test.YtopeidmafalklaaPk01
import Derived.Test.YtopeidmafalklaaPk03
import Derived.Laws.OwnMore
import Derived.Test.YtopeidmafalklaaPk05

namespace Go.Proofs.Ytopeidmafalklaa
open Go.RowKit Go.Shelf
attribute [local go_sem] Oper.semAt_some

theorem ptK_all (bs : List Bool) {N : Nat} (l : List (Part N)) (h : l.map (·.1) = List.range N) : l.map (fun x => cV (ptAt bs x.1)) = (ptK bs N).map cV := by
  unfold ptK
  rw [← h, List.map_map, List.map_map]
  rfl
theorem one_fin : finB (fl .f32 1065353216) = true := by decide
theorem infoC64S : (Try.prog.info? 60).map (fun i => (i.zero, i.size, i.bytes)) = some (some (.slice none 0 0), 1, 24) := by kernel_rfl


set_option maxRecDepth 100000 in
set_option maxHeartbeats 8000000 in
theorem impl_PointsOf_c0 (w : World) (A : Option Addr) (n cap : Nat) (bs : List Bool) (hl : bs.length = n) (hn : n ≤ 1048576) (hx : Sl w w.heap.size A (bs.map Value.bool)) :
    Calls Try.prog 31 #[.slice A n cap] w (PtsPost w bs) := by
  have HV := Lib.hid (impl_SoftOf_c w A n cap bs hl hn hx 1065353216)
  clear hx
  have hmod : ((n : Int)).tmod 2 = ((n % 2 : Nat) : Int) := by rw [Int.tmod_eq_emod_of_nonneg (by omega)]; push_cast; rfl
  by_cases h1 : n ≤ 160
  · have hso : softOkB n 1065353216 = true := by unfold softOkB; rw [decide_eq_true h1, one_fin]; rfl
    have hsl : softOfL bs 1065353216 = bs.map sgB := by
      unfold softOfL
      rw [hl, hso, if_pos rfl]
      exact List.map_congr_left fun b _ => softSign_sg b
    rw [hso, hsl] at HV
    by_cases hr0 : n % 2 = 0
    · have hok : ptsOk bs = true := by unfold ptsOk; rw [hl, decide_eq_true h1, hr0]; rfl
      have hch : chN 2 n = n / 2 := by unfold chN; omega
      have hL : ptsL bs = ptK bs (n / 2) := by unfold ptsL; rw [hok, if_pos rfl, hl]
      have hm' : ((n : Int)).tmod 2 = 0 := by rw [hmod, hr0]; rfl
      have HOK := Lib.hid hok
      have HL := Lib.hid hL
      have HCH := Lib.hid hch
      have HE := Lib.hid hr0
      clear hok hL hch hso hsl hmod hr0
      refine calls_marks Try.func31 rfl ?_
      simp only [Try.ntmps31, List.size_toArray, List.length_cons, List.length_nil, Nat.reduceAdd, Nat.reduceSub, Array.replicate_succ, Array.replicate_zero, List.push_toArray, List.append_toArray, List.nil_append, List.cons_append]
      go_wp2_with fail
      refine HV.out.mono ?_
      rintro e w2 ⟨vs, rfl, hos, hb2⟩
      obtain ⟨AS, kS, rfl, hpS⟩ := hos.opn
      have hlS : (bs.map sgB).length = n := by rw [List.length_map, hl]
      rw [hlS] at hpS ⊢
      have hAS : (AS = none ∧ n = 0 ∧ kS = 0) ∨ ∃ g, AS = some ⟨g, 0, none⟩ ∧ n ≤ kS ∧ kS ≤ maxLen := by
        rcases hpS.2 with ⟨h2, h3⟩ | ⟨g, c, cur, h2, _, _, h3, h4, _⟩
        · injection h2 with e1 e2 e3
          exact .inl ⟨e1, e2, e3⟩
        · injection h2 with e1 e2 e3
          subst e3
          exact .inr ⟨g, e1, h3, h4⟩
      obtain ⟨gA, hCA, hc1, hc2, hc3⟩ : ∃ g, ChA AS g 0 n ∧ n ≤ kS ∧ kS ≤ 9223372036854775807 ∧ (AS = none → kS = 0) := by
        rcases hAS with ⟨rfl, rfl, rfl⟩ | ⟨g, rfl, h3, h4⟩
        · exact ⟨0, .inr ⟨rfl, rfl⟩, Nat.le_refl _, by decide, fun _ => rfl⟩
        · exact ⟨g, .inl rfl, h3, by unfold maxLen at h4; omega, fun h => by cases h⟩
      have HPS := Lib.hid hpS
      have z2 := hb2.size
      obtain ⟨w4, e4⟩ : ∃ q : World, q = (w2.alloc (.cells #[] 118)).alloc (.cells #[.slice (some ⟨w2.heap.size, 0, none⟩) 0 0] 60) := ⟨_, rfl⟩
      have hbf4 : Bufd w4 w2.heap.size (w2.heap.size + 1) 60 118 [] := by
        have h3 := own_empty w2 w2.heap.size 118 (Nat.le_refl _)
        have h4 := Boxed.new (w2.alloc (.cells #[] 118)) 60 (.slice (some ⟨w2.heap.size, 0, none⟩) 0 0)
        rw [World.size_alloc] at h4
        rw [e4]
        exact ⟨_, h4, World.ownsRow.alloc h3 _, _, _, rfl⟩
      have b4 : Below w2.heap.size w2 w4 := by rw [e4]; exact ((Below.refl _ _).alloc (Nat.le_refl _) _).alloc (by simp) _
      have z4 : w4.heap.size = w2.heap.size + 1 + 1 := by rw [e4]; simp
      clear hos hpS hlS hAS
      go_wp2_with (first | (rw [← e4]; clear e4) | (go_at_call 43; refine ((callsIn_wide (n := 3)).1 (Chunk_float32_in 3 AS n kS 2 (by decide) _)).mono ?_; rintro e w5 ⟨rfl, rfl⟩))
      have hbx1 := Boxed.new w4 25 (.slice AS n kS)
      have hbx2 := Boxed.new (w4.alloc (.cells #[.slice AS n kS] 25)) 3 (.int .i64 2)
      rw [World.size_alloc] at hbx2
      rw [z4] at hbx1 hbx2
      obtain ⟨w5, e5⟩ : ∃ q : World, q = (w4.alloc (.cells #[.slice AS n kS] 25)).alloc (.cells #[.int .i64 2] 3) := ⟨_, rfl⟩
      have z5 : w5.heap.size = w4.heap.size + 2 := by rw [e5]; simp
      have X1 : Boxed w5 (w2.heap.size + 1 + 1) 25 (.slice AS n kS) := by rw [e5]; exact hbx1.alloc _
      have X2 : Boxed w5 (w2.heap.size + 1 + 1 + 1) 3 (.int .i64 2) := by rw [e5]; exact hbx2
      have hbf5 : Bufd w5 w2.heap.size (w2.heap.size + 1) 60 118 [] := by
        rw [e5]
        obtain ⟨v, k1, k2, k3⟩ := hbf4
        exact ⟨v, (k1.alloc _).alloc _, World.ownsRow.alloc (World.ownsRow.alloc k2 _) _, k3⟩
      have b5 : Below w2.heap.size w2 w5 := by
        rw [e5]
        exact (b4.alloc (by omega) _).alloc (by simp; omega) _
      rw [← e5]
      clear e5 hbx1 hbx2 hbf4 b4
      refine wp_chunk_float32' 24 7 (w2.heap.size + 1 + 1) (w2.heap.size + 1 + 1 + 1) gA 0 n kS 2 AS rfl rfl hCA (by decide) (by decide) hn hc1 hc2 hc3 (by omega) (by omega) X1.cell X2.cell
        (fun pre W => (Bufd W w2.heap.size (w2.heap.size + 1) 60 118 (pre.map fun x => cV (ptAt bs x.1)) ∧ Boxed W (w2.heap.size + 1 + 1) 25 (.slice AS n kS) ∧ Boxed W (w2.heap.size + 1 + 1 + 1) 3 (.int .i64 2)) ∧ Below w2.heap.size w2 W)
        (loopI_own w2.heap.size _ _ _ _ _ _ _ _ _ _ w2 _ (by omega) (by omega)) ⟨⟨hbf5, X1, X2⟩, b5⟩ ?assign ?body ?done
      case assign =>
        intro l x W K hK
        gi_wp2
        exact hK
      case body =>
        rintro l pre x W ⟨⟨hbf, hq1, hq2⟩, hBW⟩ hlp
        obtain ⟨P, hP⟩ : ∃ P, 2 * x.1 = P := ⟨_, rfl⟩
        have hxN : x.1 < n / 2 := by have h2 : x.1 < chN 2 n := x.2; have h3 : chN 2 n = n / 2 := HCH.out; omega
        have hPn : P + 1 < n := by omega
        have hcv : chV gA 0 2 n x.1 = .slice (some ⟨gA, P, none⟩) 2 2 := by
          unfold chV
          have he := HE.out
          rw [hP, Nat.zero_add, show min 2 (n - P) = 2 by omega]
        rw [hcv]
        simp only [List.setIfInBounds_toArray, List.set_cons_succ, List.set_cons_zero]
        have hAS : AS = some ⟨gA, 0, none⟩ := by
          rcases hCA with h | ⟨_, h⟩
          · exact h
          · omega
        obtain ⟨bx, ebx⟩ : ∃ q, bs.getD (2 * x.1) false = q := ⟨_, rfl⟩
        obtain ⟨by_, eby⟩ : ∃ q, bs.getD (2 * x.1 + 1) false = q := ⟨_, rfl⟩
        have hpt : cV (ptAt bs x.1) = cV (sgB bx, sgB by_) := by unfold ptAt; rw [ebx, eby]
        have hcell : ∀ (k : Nat) (q : Bool), k < n → bs.getD k false = q → W.cell? ⟨gA, k, none⟩ = some (.float .f32 (sgB q)) := fun k q hk hq => by
          have hps := HPS.out
          rw [hAS] at hps
          have h2 := World.ownsRow.cellAt (own_below hps hBW (by omega)) k (by omega)
          have h3 : k < bs.length := by omega
          have h4 : bs[k] = q := by rw [← hq]; simp [List.getD, h3]
          rw [h2, List.map_map, List.getElem?_map, List.getElem?_eq_getElem h3, h4]
          rfl
        have ca := hcell P bx (by omega) (by rw [← hP]; exact ebx)
        have cb := hcell (P + 1) by_ hPn (by rw [← hP]; exact eby)
        obtain ⟨v5, k1, k2, g5, cap5, rfl⟩ := hbf
        have hpl : pre.length ≤ 80 := by
          have h3 : chN 2 n = n / 2 := HCH.out
          omega
        have hcb := k1.cell
        have hfb := k1.frozen
        have hlen0 : (pre.map fun x => cV (ptAt bs x.1)).length = pre.length := List.length_map _
        rw [hlen0] at k1 k2 hcb
        have hsn : (pre ++ [x]).map (fun x => cV (ptAt bs x.1)) = (pre.map fun x => cV (ptAt bs x.1)) ++ [cV (sgB bx, sgB by_)] := by rw [List.map_append, List.map_cons, List.map_nil, hpt]
        obtain ⟨L, eL⟩ : ∃ L, (pre.map fun x => cV (ptAt bs x.1)) = L := ⟨_, rfl⟩
        rw [eL] at k2 hsn hlen0
        obtain ⟨N0, eN⟩ : ∃ N0, pre.length = N0 := ⟨_, rfl⟩
        rw [eN] at k1 k2 hcb hpl hlen0
        have HSN := Lib.hid hsn
        have hlen : L.length + 1 ≤ 1099511627776 := by omega
        have hDW : w2.heap.size ≤ W.heap.size := Nat.le_trans (by omega) hBW.size
        have h9 : (L ++ [cV (sgB bx, sgB by_)]).length = N0 + 1 := by rw [List.length_append, hlen0]; rfl
        have hrow9 : ∀ (v6 : Value) (w6 : World), Ow w6 w2.heap.size 118 v6 (L ++ [cV (sgB bx, sgB by_)]) → w6.ownsRow w2.heap.size 118 1 v6 (N0 + 1) (L ++ [cV (sgB bx, sgB by_)]) := fun v6 w6 h => by
          unfold Ow at h
          rw [h9] at h
          exact h
        have HAPP := Lib.hid (fun (v6 : Value) (w6 : World) (ho6 : Ow w6 w2.heap.size 118 v6 (L ++ [cV (sgB bx, sgB by_)])) (hg6 : ((W.alloc (.cells #[cV (sgB bx, sgB by_)] 118)).drew).grownBy w6 (Value.slice (some ⟨g5, 0, none⟩) N0 cap5).ownBlock) =>
          appd_of (w1 := w6) (v' := v6) (N := N0 + 1) (ys := L ++ [cV (sgB bx, sgB by_)]) (show Boxed W.drew (w2.heap.size + 1) 60 _ from k1) (by decide) (show W.drew.ownsRow w2.heap.size 118 1 _ N0 L from k2) (show w2.heap.size ≤ W.drew.heap.size from hDW) (by omega) (show W.drew.grownBy ((W.alloc (.cells #[cV (sgB bx, sgB by_)] 118)).drew) none from (fun g => ⟨g.os, g.tape, g.output, g.size, g.block⟩) (World.grownBy_alloc W (.cells #[cV (sgB bx, sgB by_)] 118) none)) rfl (hrow9 _ _ ho6) hg6 (by omega))
        have HEND := Lib.hid (fun (v6 : Value) (w6 : World) (N6 : Nat) (hA : Appd W.drew w6 w2.heap.size (w2.heap.size + 1) 60 118 (.slice (some ⟨g5, 0, none⟩) N0 cap5) v6 N6 (L ++ [cV (sgB bx, sgB by_)])) => (show KeepsFrom w5.heap.size W (w6.setCell ⟨w2.heap.size + 1, 0, none⟩ v6) ∧ KpB (w2.heap.size + 1 + 1) (w2.heap.size + 1 + 1 + 1) W (w6.setCell ⟨w2.heap.size + 1, 0, none⟩ v6) ∧ ((Bufd (w6.setCell ⟨w2.heap.size + 1, 0, none⟩ v6) w2.heap.size (w2.heap.size + 1) 60 118 ((pre ++ [x]).map fun x => cV (ptAt bs x.1)) ∧ Boxed (w6.setCell ⟨w2.heap.size + 1, 0, none⟩ v6) (w2.heap.size + 1 + 1) 25 (.slice AS n kS) ∧ Boxed (w6.setCell ⟨w2.heap.size + 1, 0, none⟩ v6) (w2.heap.size + 1 + 1 + 1) 3 (.int .i64 2)) ∧ Below w2.heap.size w2 (w6.setCell ⟨w2.heap.size + 1, 0, none⟩ v6)) from by
          have q1 := hA.box (show W.drew.ownsRow w2.heap.size 118 1 _ N0 L from k2) (show Boxed W.drew _ _ _ from hq1) (by decide) (by omega)
          have q2 := hA.box (show W.drew.ownsRow w2.heap.size 118 1 _ N0 L from k2) (show Boxed W.drew _ _ _ from hq2) (by decide) (by omega)
          have hK : KeepsOthers W (w6.setCell ⟨w2.heap.size + 1, 0, none⟩ v6) := (KeepsOthers.drew W).trans hA.oth
          refine ⟨hK.from _, ⟨q1.trans hq1.symm, q2.trans hq2.symm⟩, ⟨?_, q1, q2⟩, hBW.trans ⟨hA.bel.os, hA.bel.tape, hA.bel.output, hA.bel.size, hA.bel.block⟩⟩
          rw [HSN.out]
          exact hA.buf))
        have hown0 : Ow W w2.heap.size 118 (.slice (some ⟨g5, 0, none⟩) N0 cap5) L := by
          unfold Ow
          rw [hlen0]
          exact k2
        have HROW := Lib.hid (show Ow ((W.alloc (.cells #[cV (sgB bx, sgB by_)] 118)).drew) w2.heap.size 118 (.slice (some ⟨g5, 0, none⟩) N0 cap5) L from World.ownsRow.alloc hown0 _)
        have HDB := Lib.hid (show w2.heap.size ≤ ((W.alloc (.cells #[cV (sgB bx, sgB by_)] 118)).drew).heap.size from by show w2.heap.size ≤ (World.alloc _ _).heap.size; simp; omega)
        have qa : (W.alloc (.cells #[.complex .f32 (sgB bx) (sgB by_)] 118)).cell? ⟨w2.heap.size + 1, 0, none⟩ = some (.slice (some ⟨g5, 0, none⟩) N0 cap5) := (k1.alloc _).cell
        clear h9 hrow9 hcell ebx eby hpt hP hcv hxN hlp hq1 hq2 k2 hown0 eL eN hsn hBW
        gi_wp2_with fail
        refine roundRegion (by kernel_rfl) (by decide) (by rintro ⟨a, w, h⟩; exact h) ?_
        change wpAny _ _ _ _ _ _ _ (World.drew _)
        refine wpAny_take (i := 1) (v := .slice (some ⟨gA, P, none⟩) 2 2) rfl (by kernel_rfl) (by kernel_rfl) (by kernel_rfl) (fun _ _ _ h => h) (Or.inl ⟨by rfl, fun w' => by go_simp⟩) ?_
        refine wpAny_take (i := 2) (v := .pointer (some ⟨gA, P, none⟩)) rfl (by kernel_rfl) (by kernel_rfl) (by kernel_rfl) (fun _ _ _ h => h) (Or.inl ⟨by rfl, fun w' => by go_simp⟩) ?_
        refine wpAny_take (i := 4) (v := .slice (some ⟨gA, P, none⟩) 2 2) rfl (by kernel_rfl) (by kernel_rfl) (by kernel_rfl) (fun _ _ _ h => h) (Or.inl ⟨by rfl, fun w' => by go_simp⟩) ?_
        refine wpAny_take (i := 5) (v := .pointer (some ⟨gA, P + 1, none⟩)) rfl (by kernel_rfl) (by kernel_rfl) (by kernel_rfl) (fun _ _ _ h => h) (Or.inl ⟨by rfl, fun w' => by go_simp⟩) ?_
        refine wpAny_ready (rs := [0, 3, 6]) (by kernel_rfl) (by simp) ?_
        refine AllReady.cons rfl (fun K hK => ?_) ?_
        · go_simp
          refine hK _ _ ?_
          clear hK K
          refine wpAny_ready (rs := [3, 6]) (by kernel_rfl) (by simp) ?_
          refine AllReady.cons rfl (fun K hK => ?_) ?_
          · go_simp
            refine hK _ _ ?_
            clear hK K
            refine wpAny_ready (rs := [6]) (by kernel_rfl) (by simp) ?_
            refine AllReady.cons rfl (fun K hK => ?_) ?_
            · go_simp
              refine hK _ _ ?_
              clear hK K
              refine wpAny_take (i := 7) (v := .complex .f32 (sgB bx) (sgB by_)) rfl (by kernel_rfl) (by kernel_rfl) (by kernel_rfl) (fun _ _ _ h => h) (Or.inl ⟨by rfl, fun w' => by go_simp⟩) ?_
              refine wpAny_ready (rs := [8]) (by kernel_rfl) (by simp) ?_
              refine AllReady.cons rfl (fun K hK => ?_) ?_
              · go_simp
                refine hK _ _ ?_
                clear hK K
                refine wpAny_ready (rs := [9]) (by kernel_rfl) (by simp) ?_
                refine AllReady.cons rfl (fun K hK => ?_) ?_
                · refine step_app1 Try.underlying60 infoC64 rfl (by decide) (by rfl) _ _ (by rfl) w2.heap.size (.slice (some ⟨g5, 0, none⟩) N0 cap5) _ (by rfl) HROW.out _ _ (cV (sgB bx, sgB by_)) (by rfl) (cell_new1 _ _ _) rfl hlen HDB.out ?_
                  intro v6 w6 ho6 hg6
                  have hA := HAPP.out _ _ ho6 hg6
                  have c6 := hA.old.cell
                  have f6 := hA.old.frozen
                  obtain ⟨g6, cap6, rfl⟩ := hA.form
                  refine hK _ _ ?_
                  clear hK K
                  refine wpAny_ready (rs := [10]) (by kernel_rfl) (by simp) ?_
                  refine AllReady.cons rfl (fun K hK => ?_) ?_
                  · go_simp
                    refine hK _ _ ?_
                    clear hK K
                    refine wpAny_done (by kernel_rfl) ?_ _
                    exact HEND.out _ _ _ hA
                  exact AllReady.nil
                exact AllReady.nil
              exact AllReady.nil
            exact AllReady.nil
          refine AllReady.cons rfl (fun K hK => ?_) ?_
          · go_simp
            refine hK _ _ ?_
            clear hK K
            refine wpAny_ready (rs := [3]) (by kernel_rfl) (by simp) ?_
            refine AllReady.cons rfl (fun K hK => ?_) ?_
            · go_simp
              refine hK _ _ ?_
              clear hK K
              refine wpAny_take (i := 7) (v := .complex .f32 (sgB bx) (sgB by_)) rfl (by kernel_rfl) (by kernel_rfl) (by kernel_rfl) (fun _ _ _ h => h) (Or.inl ⟨by rfl, fun w' => by go_simp⟩) ?_
              refine wpAny_ready (rs := [8]) (by kernel_rfl) (by simp) ?_
              refine AllReady.cons rfl (fun K hK => ?_) ?_
              · go_simp
                refine hK _ _ ?_
                clear hK K
                refine wpAny_ready (rs := [9]) (by kernel_rfl) (by simp) ?_
                refine AllReady.cons rfl (fun K hK => ?_) ?_
                · refine step_app1 Try.underlying60 infoC64 rfl (by decide) (by rfl) _ _ (by rfl) w2.heap.size (.slice (some ⟨g5, 0, none⟩) N0 cap5) _ (by rfl) HROW.out _ _ (cV (sgB bx, sgB by_)) (by rfl) (cell_new1 _ _ _) rfl hlen HDB.out ?_
                  intro v6 w6 ho6 hg6
                  have hA := HAPP.out _ _ ho6 hg6
                  have c6 := hA.old.cell
                  have f6 := hA.old.frozen
                  obtain ⟨g6, cap6, rfl⟩ := hA.form
                  refine hK _ _ ?_
                  clear hK K
                  refine wpAny_ready (rs := [10]) (by kernel_rfl) (by simp) ?_
                  refine AllReady.cons rfl (fun K hK => ?_) ?_
                  · go_simp
                    refine hK _ _ ?_
                    clear hK K
                    refine wpAny_done (by kernel_rfl) ?_ _
                    exact HEND.out _ _ _ hA
                  exact AllReady.nil
                exact AllReady.nil
              exact AllReady.nil
            exact AllReady.nil
          exact AllReady.nil
        refine AllReady.cons rfl (fun K hK => ?_) ?_
        · go_simp
          refine hK _ _ ?_
          clear hK K
          refine wpAny_ready (rs := [0, 6]) (by kernel_rfl) (by simp) ?_
          refine AllReady.cons rfl (fun K hK => ?_) ?_
          · go_simp
            refine hK _ _ ?_
            clear hK K
            refine wpAny_ready (rs := [6]) (by kernel_rfl) (by simp) ?_
            refine AllReady.cons rfl (fun K hK => ?_) ?_
            · go_simp
              refine hK _ _ ?_
              clear hK K
              refine wpAny_take (i := 7) (v := .complex .f32 (sgB bx) (sgB by_)) rfl (by kernel_rfl) (by kernel_rfl) (by kernel_rfl) (fun _ _ _ h => h) (Or.inl ⟨by rfl, fun w' => by go_simp⟩) ?_
              refine wpAny_ready (rs := [8]) (by kernel_rfl) (by simp) ?_
              refine AllReady.cons rfl (fun K hK => ?_) ?_
              · go_simp
                refine hK _ _ ?_
                clear hK K
                refine wpAny_ready (rs := [9]) (by kernel_rfl) (by simp) ?_
                refine AllReady.cons rfl (fun K hK => ?_) ?_
                · refine step_app1 Try.underlying60 infoC64 rfl (by decide) (by rfl) _ _ (by rfl) w2.heap.size (.slice (some ⟨g5, 0, none⟩) N0 cap5) _ (by rfl) HROW.out _ _ (cV (sgB bx, sgB by_)) (by rfl) (cell_new1 _ _ _) rfl hlen HDB.out ?_
                  intro v6 w6 ho6 hg6
                  have hA := HAPP.out _ _ ho6 hg6
                  have c6 := hA.old.cell
                  have f6 := hA.old.frozen
                  obtain ⟨g6, cap6, rfl⟩ := hA.form
                  refine hK _ _ ?_
                  clear hK K
                  refine wpAny_ready (rs := [10]) (by kernel_rfl) (by simp) ?_
                  refine AllReady.cons rfl (fun K hK => ?_) ?_
                  · go_simp
                    refine hK _ _ ?_
                    clear hK K
                    refine wpAny_done (by kernel_rfl) ?_ _
                    exact HEND.out _ _ _ hA
                  exact AllReady.nil
                exact AllReady.nil
              exact AllReady.nil
            exact AllReady.nil
          refine AllReady.cons rfl (fun K hK => ?_) ?_
          · go_simp
            refine hK _ _ ?_
            clear hK K
            refine wpAny_take (i := 7) (v := .complex .f32 (sgB bx) (sgB by_)) rfl (by kernel_rfl) (by kernel_rfl) (by kernel_rfl) (fun _ _ _ h => h) (Or.inl ⟨by rfl, fun w' => by go_simp⟩) ?_
            refine wpAny_ready (rs := [0, 8]) (by kernel_rfl) (by simp) ?_
            refine AllReady.cons rfl (fun K hK => ?_) ?_
            · go_simp
              refine hK _ _ ?_
              clear hK K
              refine wpAny_ready (rs := [8]) (by kernel_rfl) (by simp) ?_
              refine AllReady.cons rfl (fun K hK => ?_) ?_
              · go_simp
                refine hK _ _ ?_
                clear hK K
                refine wpAny_ready (rs := [9]) (by kernel_rfl) (by simp) ?_
                refine AllReady.cons rfl (fun K hK => ?_) ?_
                · refine step_app1 Try.underlying60 infoC64 rfl (by decide) (by rfl) _ _ (by rfl) w2.heap.size (.slice (some ⟨g5, 0, none⟩) N0 cap5) _ (by rfl) HROW.out _ _ (cV (sgB bx, sgB by_)) (by rfl) (cell_new1 _ _ _) rfl hlen HDB.out ?_
                  intro v6 w6 ho6 hg6
                  have hA := HAPP.out _ _ ho6 hg6
                  have c6 := hA.old.cell
                  have f6 := hA.old.frozen
                  obtain ⟨g6, cap6, rfl⟩ := hA.form
                  refine hK _ _ ?_
                  clear hK K
                  refine wpAny_ready (rs := [10]) (by kernel_rfl) (by simp) ?_
                  refine AllReady.cons rfl (fun K hK => ?_) ?_
                  · go_simp
                    refine hK _ _ ?_
                    clear hK K
                    refine wpAny_done (by kernel_rfl) ?_ _
                    exact HEND.out _ _ _ hA
                  exact AllReady.nil
                exact AllReady.nil
              exact AllReady.nil
            refine AllReady.cons rfl (fun K hK => ?_) ?_
            · go_simp
              refine hK _ _ ?_
              clear hK K
              refine wpAny_ready (rs := [0]) (by kernel_rfl) (by simp) ?_
              refine AllReady.cons rfl (fun K hK => ?_) ?_
              · go_simp
                refine hK _ _ ?_
                clear hK K
                refine wpAny_ready (rs := [9]) (by kernel_rfl) (by simp) ?_
                refine AllReady.cons rfl (fun K hK => ?_) ?_
                · refine step_app1 Try.underlying60 infoC64 rfl (by decide) (by rfl) _ _ (by rfl) w2.heap.size (.slice (some ⟨g5, 0, none⟩) N0 cap5) _ (by rfl) HROW.out _ _ (cV (sgB bx, sgB by_)) (by rfl) (cell_new1 _ _ _) rfl hlen HDB.out ?_
                  intro v6 w6 ho6 hg6
                  have hA := HAPP.out _ _ ho6 hg6
                  have c6 := hA.old.cell
                  have f6 := hA.old.frozen
                  obtain ⟨g6, cap6, rfl⟩ := hA.form
                  refine hK _ _ ?_
                  clear hK K
                  refine wpAny_ready (rs := [10]) (by kernel_rfl) (by simp) ?_
                  refine AllReady.cons rfl (fun K hK => ?_) ?_
                  · go_simp
                    refine hK _ _ ?_
                    clear hK K
                    refine wpAny_done (by kernel_rfl) ?_ _
                    exact HEND.out _ _ _ hA
                  exact AllReady.nil
                exact AllReady.nil
              exact AllReady.nil
            exact AllReady.nil
          exact AllReady.nil
        refine AllReady.cons rfl (fun K hK => ?_) ?_
        · go_simp
          refine hK _ _ ?_
          clear hK K
          refine wpAny_ready (rs := [0, 3]) (by kernel_rfl) (by simp) ?_
          refine AllReady.cons rfl (fun K hK => ?_) ?_
          · go_simp
            refine hK _ _ ?_
            clear hK K
            refine wpAny_ready (rs := [3]) (by kernel_rfl) (by simp) ?_
            refine AllReady.cons rfl (fun K hK => ?_) ?_
            · go_simp
              refine hK _ _ ?_
              clear hK K
              refine wpAny_take (i := 7) (v := .complex .f32 (sgB bx) (sgB by_)) rfl (by kernel_rfl) (by kernel_rfl) (by kernel_rfl) (fun _ _ _ h => h) (Or.inl ⟨by rfl, fun w' => by go_simp⟩) ?_
              refine wpAny_ready (rs := [8]) (by kernel_rfl) (by simp) ?_
              refine AllReady.cons rfl (fun K hK => ?_) ?_
              · go_simp
                refine hK _ _ ?_
                clear hK K
                refine wpAny_ready (rs := [9]) (by kernel_rfl) (by simp) ?_
                refine AllReady.cons rfl (fun K hK => ?_) ?_
                · refine step_app1 Try.underlying60 infoC64 rfl (by decide) (by rfl) _ _ (by rfl) w2.heap.size (.slice (some ⟨g5, 0, none⟩) N0 cap5) _ (by rfl) HROW.out _ _ (cV (sgB bx, sgB by_)) (by rfl) (cell_new1 _ _ _) rfl hlen HDB.out ?_
                  intro v6 w6 ho6 hg6
                  have hA := HAPP.out _ _ ho6 hg6
                  have c6 := hA.old.cell
                  have f6 := hA.old.frozen
                  obtain ⟨g6, cap6, rfl⟩ := hA.form
                  refine hK _ _ ?_
                  clear hK K
                  refine wpAny_ready (rs := [10]) (by kernel_rfl) (by simp) ?_
                  refine AllReady.cons rfl (fun K hK => ?_) ?_
                  · go_simp
                    refine hK _ _ ?_
                    clear hK K
                    refine wpAny_done (by kernel_rfl) ?_ _
                    exact HEND.out _ _ _ hA
                  exact AllReady.nil
                exact AllReady.nil
              exact AllReady.nil
            exact AllReady.nil
          refine AllReady.cons rfl (fun K hK => ?_) ?_
          · go_simp
            refine hK _ _ ?_
            clear hK K
            refine wpAny_take (i := 7) (v := .complex .f32 (sgB bx) (sgB by_)) rfl (by kernel_rfl) (by kernel_rfl) (by kernel_rfl) (fun _ _ _ h => h) (Or.inl ⟨by rfl, fun w' => by go_simp⟩) ?_
            refine wpAny_ready (rs := [0, 8]) (by kernel_rfl) (by simp) ?_
            refine AllReady.cons rfl (fun K hK => ?_) ?_
            · go_simp
              refine hK _ _ ?_
              clear hK K
              refine wpAny_ready (rs := [8]) (by kernel_rfl) (by simp) ?_
              refine AllReady.cons rfl (fun K hK => ?_) ?_
              · go_simp
                refine hK _ _ ?_
                clear hK K
                refine wpAny_ready (rs := [9]) (by kernel_rfl) (by simp) ?_
                refine AllReady.cons rfl (fun K hK => ?_) ?_
                · refine step_app1 Try.underlying60 infoC64 rfl (by decide) (by rfl) _ _ (by rfl) w2.heap.size (.slice (some ⟨g5, 0, none⟩) N0 cap5) _ (by rfl) HROW.out _ _ (cV (sgB bx, sgB by_)) (by rfl) (cell_new1 _ _ _) rfl hlen HDB.out ?_
                  intro v6 w6 ho6 hg6
                  have hA := HAPP.out _ _ ho6 hg6
                  have c6 := hA.old.cell
                  have f6 := hA.old.frozen
                  obtain ⟨g6, cap6, rfl⟩ := hA.form
                  refine hK _ _ ?_
                  clear hK K
                  refine wpAny_ready (rs := [10]) (by kernel_rfl) (by simp) ?_
                  refine AllReady.cons rfl (fun K hK => ?_) ?_
                  · go_simp
                    refine hK _ _ ?_
                    clear hK K
                    refine wpAny_done (by kernel_rfl) ?_ _
                    exact HEND.out _ _ _ hA
                  exact AllReady.nil
                exact AllReady.nil
              exact AllReady.nil
            refine AllReady.cons rfl (fun K hK => ?_) ?_
            · go_simp
              refine hK _ _ ?_
              clear hK K
              refine wpAny_ready (rs := [0]) (by kernel_rfl) (by simp) ?_
              refine AllReady.cons rfl (fun K hK => ?_) ?_
              · go_simp
                refine hK _ _ ?_
                clear hK K
                refine wpAny_ready (rs := [9]) (by kernel_rfl) (by simp) ?_
                refine AllReady.cons rfl (fun K hK => ?_) ?_
                · refine step_app1 Try.underlying60 infoC64 rfl (by decide) (by rfl) _ _ (by rfl) w2.heap.size (.slice (some ⟨g5, 0, none⟩) N0 cap5) _ (by rfl) HROW.out _ _ (cV (sgB bx, sgB by_)) (by rfl) (cell_new1 _ _ _) rfl hlen HDB.out ?_
                  intro v6 w6 ho6 hg6
                  have hA := HAPP.out _ _ ho6 hg6
                  have c6 := hA.old.cell
                  have f6 := hA.old.frozen
                  obtain ⟨g6, cap6, rfl⟩ := hA.form
                  refine hK _ _ ?_
                  clear hK K
                  refine wpAny_ready (rs := [10]) (by kernel_rfl) (by simp) ?_
                  refine AllReady.cons rfl (fun K hK => ?_) ?_
                  · go_simp
                    refine hK _ _ ?_
                    clear hK K
                    refine wpAny_done (by kernel_rfl) ?_ _
                    exact HEND.out _ _ _ hA
                  exact AllReady.nil
                exact AllReady.nil
              exact AllReady.nil
            exact AllReady.nil
          exact AllReady.nil
        exact AllReady.nil
      case done =>
        rintro Dd ys W hDd hys ⟨⟨hbf, _, _⟩, hBW⟩ hK
        rw [ptK_all bs ys hys, HCH.out] at hbf
        obtain ⟨v5, k1, k2, g5, cap5, rfl⟩ := hbf
        rw [List.length_map] at k1 k2
        have hc := k1.cell
        have HK2 := Lib.hid k2
        clear k2 hys
        go_wp2
        refine marks_ret1 rfl hK (results_tmp2 rfl _ _ _) ?_
        refine ⟨_, by rw [HOK.out]; rfl, ?_, (hb2.trans (hBW.mono z2)).trans (belowK_b (w := w) (Nat.le_refl _) _ Dd _ _ (by omega) hK rfl rfl)⟩
        rw [HL.out]
        unfold Ow
        rw [List.length_map]
        exact own_base (ownsRow_putObj HK2.out _ hK rfl) z2
    · have hok : ptsOk bs = false := by
        unfold ptsOk
        rw [hl]
        simp [hr0]
      have HOK := Lib.hid hok
      have hm' : ((n : Int)).tmod 2 = 1 := by rw [hmod, show n % 2 = 1 by omega]; rfl
      clear hok hmod hr0 hso hsl
      refine calls_marks Try.func31 rfl ?_
      simp only [Try.ntmps31, List.size_toArray, List.length_cons, List.length_nil, Nat.reduceAdd, Nat.reduceSub, Array.replicate_succ, Array.replicate_zero, List.push_toArray, List.append_toArray, List.nil_append, List.cons_append]
      go_wp2_with fail
      refine HV.out.mono ?_
      rintro e w2 ⟨vs, rfl, hos, hb2⟩
      go_wp2
      refine marks_ret0 (results_tmp2 rfl _ _ _) rfl ?_
      exact pts_fail HOK.out hb2
  · have hok : ptsOk bs = false := by
      unfold ptsOk
      rw [hl, decide_eq_false h1]
      rfl
    have hso : softOkB n 1065353216 = false := by unfold softOkB; rw [decide_eq_false h1]; rfl
    rw [hso] at HV
    have HOK := Lib.hid hok
    clear hok hmod hso
    refine calls_marks Try.func31 rfl ?_
    simp only [Try.ntmps31, List.size_toArray, List.length_cons, List.length_nil, Nat.reduceAdd, Nat.reduceSub, Array.replicate_succ, Array.replicate_zero, List.push_toArray, List.append_toArray, List.nil_append, List.cons_append]
    go_wp2_with fail
    refine HV.out.mono ?_
    rintro e w2 ⟨vs, rfl, hos, hb2⟩
    go_wp2
    refine marks_ret0 (results_tmp2 rfl _ _ _) rfl ?_
    exact pts_fail HOK.out hb2

end Go.Proofs.Ytopeidmafalklaa


namespace Go.Proofs.Ytopeidmafalklaa
open Go.RowKit

def cB (p : Bool × Bool) : Value := .complex .f32 (sgB p.1) (sgB p.2)
def ptB (bs : List Bool) (x : Nat) : Bool × Bool := (bs.getD (2 * x) false, bs.getD (2 * x + 1) false)
def ptsB (bs : List Bool) : List (Bool × Bool) := if ptsOk bs then (List.range (bs.length / 2)).map (ptB bs) else []
theorem pts_same (bs : List Bool) : (ptsL bs).map cV = (ptsB bs).map cB := by
  unfold ptsL ptsB ptK
  split
  · rw [List.map_map, List.map_map]
    rfl
  · rfl
theorem ptsB_len (bs : List Bool) : (ptsB bs).length ≤ 80 := by
  unfold ptsB
  split
  · rename_i h
    unfold ptsOk at h
    simp only [Bool.and_eq_true, decide_eq_true_eq] at h
    simp
    omega
  · simp

theorem impl_PointsOf_c (w : World) (A : Option Addr) (n cap : Nat) (bs : List Bool) (hl : bs.length = n) (hn : n ≤ 1048576) (hx : Sl w w.heap.size A (bs.map Value.bool)) :
    Calls Try.prog 31 #[.slice A n cap] w fun e w' => ∃ v, e = .returned (.tuple #[v, .bool (ptsOk bs)]) ∧ Ow w' w.heap.size 118 v ((ptsB bs).map cB) ∧ Below w.heap.size w w' := by
  refine (impl_PointsOf_c0 w A n cap bs hl hn hx).mono ?_
  rintro e w' ⟨v, h1, h2, h3⟩
  exact ⟨v, h1, by rw [← pts_same]; exact h2, h3⟩

def nar (k : Int) : Nat := (floatToFloatBits .f64 (floatOfInt .f64 k) .f32).getD 0
def mkC (k : Int) : Value := .complex .f32 (nar k) 1065353216
theorem nar_all : ∀ q < 91, floatToFloatBits .f64 (floatOfInt .f64 ((q : Nat) : Int)) .f32 = some (nar ((q : Nat) : Int)) ∧ nanB .f32 (nar ((q : Nat) : Int)) = false := by decide +kernel
theorem nar_self {k : Int} (h0 : 0 ≤ k) (h1 : k ≤ 90) : FloatKind.f32.format.order (nar k) (nar k) = some .eq := by
  obtain ⟨q, rfl⟩ : ∃ q : Nat, k = q := ⟨k.toNat, by omega⟩
  exact order_self .f32 _ (nar_all q (by omega)).2
theorem one32p : floatToFloatBits .f64 4607182418800017408 .f32 = some 1065353216 := by decide +kernel
def sgW (b : Bool) : Nat := if b then 4607182418800017408 else 13830554455654793216
theorem sg_wide (b : Bool) : floatToFloatBits .f32 (sgB b) .f64 = some (sgW b) := by cases b <;> decide +kernel




end Go.Proofs.Ytopeidmafalklaa


namespace Go.Proofs.Ytopeidmafalklaa
open Go.RowKit

def fourB (b : Bool) : Nat := if b then 1082130432 else 3229614080
def twoB (b : Bool) : Nat := if b then 1073741824 else 3221225472
theorem two_sg (b : Bool) : floatBits .mul .f32 1073741824 (sgB b) = some (twoB b) := by cases b <;> decide +kernel
theorem four_sg (b : Bool) : floatBits .quo .f32 (twoB b) 1056964608 = some (fourB b) := by cases b <;> decide +kernel
theorem sg_fin (b : Bool) : finB (fl .f32 (sgB b)) = true := by cases b <;> decide +kernel
theorem four_fin (b : Bool) : finB (fl .f32 (fourB b)) = true := by cases b <;> decide +kernel
theorem half_fin : finB (fl .f32 1056964608) = true := by decide +kernel
def fourL (ps : List (Bool × Bool)) : List Nat := ps.flatMap fun p => [fourB p.1, fourB p.2]
theorem fourL_len : ∀ ps : List (Bool × Bool), (fourL ps).length = 2 * ps.length
  | [] => rfl
  | p :: ps => by
    have := fourL_len ps
    unfold fourL at *
    rw [List.flatMap_cons, List.length_append, this]
    simp
    omega
theorem fourL_snoc {ps : List (Bool × Bool)} {k : Nat} (h : k < ps.length) : fourL (ps.take (k + 1)) = fourL (ps.take k) ++ [fourB (ps[k]).1, fourB (ps[k]).2] := by
  unfold fourL
  rw [List.take_succ_eq_append_getElem h, List.flatMap_append]
  simp
theorem fourL_fin (ps : List (Bool × Bool)) : ((fourL ps).all fun x => finB (fl .f32 x)) = true := by
  rw [List.all_eq_true]
  intro x hx
  unfold fourL at hx
  obtain ⟨p, _, hp⟩ := List.mem_flatMap.1 hx
  simp only [List.mem_cons, List.not_mem_nil, or_false] at hp
  rcases hp with rfl | rfl
  · exact four_fin _
  · exact four_fin _

theorem own_dallocZ {w : World} {n base : Nat} {e : TypeId} {v : Value} {xs : List Value} (h : Ow w base e v xs) (o : Go.Obj) : Ow ((w.drewN n).alloc o) base e v xs := World.ownsRow.alloc (w := w.drewN n) h o
theorem cells2y (w : World) (u v : Value) (e : TypeId) : ∀ j q, [u, v][j]? = some q → (w.alloc (.cells #[u, v] e)).cell? ⟨w.heap.size, j, none⟩ = some q := by
  intro j q h
  have h1 := cell_of_row (w.alloc (.cells #[u, v] e)) w.heap.size j #[u, v] e (0, 0) (heap_alloc_new w _)
  rw [h1]
  match j, h with
  | 0, h => exact h
  | 1, h => exact h

theorem cells2z (w : World) (n : Nat) (u v : Value) (e : TypeId) : ∀ j q, [u, v][j]? = some q → ((w.drewN n).alloc (.cells #[u, v] e)).cell? ⟨w.heap.size, j, none⟩ = some q := cells2y (w.drewN n) u v e

set_option maxRecDepth 100000 in
theorem IsFiniteComplex_c (w : World) (a b : Bool) : Calls Try.prog 70 #[.complex .f32 (sgB a) (sgB b)] w fun e w' => e = .returned (.bool true) ∧ ∃ n, w' = w.drewN n := by
  have h1 := sg_fin a
  have h2 := sg_fin b
  go_enter Try.func70, Try.ntmps70
  go_wp2_with (first
    | (go_at_call 60; refine (impl_IsFinite_c _ _).mono ?_; rintro e w' ⟨rfl, q, rfl⟩; first | rw [h1] | rw [h2]))
  go_ret
  exact ⟨rfl, _, rfl⟩

set_option maxRecDepth 100000 in
set_option maxHeartbeats 4000000 in
theorem SoftPoints_c (w : World) (A : Option Addr) (n cap : Nat) (ps : List (Bool × Bool)) (hl : ps.length = n) (hn : n ≤ 80) (hx : Sl w w.heap.size A (ps.map cB)) :
    Calls Try.prog 32 #[.slice A n cap, .float .f32 1056964608] w fun e w' => ∃ v, e = .returned (.tuple #[v, .bool true]) ∧ Ow w' w.heap.size 46 v ((fourL ps).map (Value.float .f32)) ∧ Below w.heap.size w w' := by
  have HX := Lib.hid hx
  clear hx
  have hf := half_fin
  have hgt : (FloatKind.f32.format.order 1056964608 0 == some Ordering.gt) = true := by decide +kernel
  have hd80 : decide ((80 : Int) < (n : Int)) = false := decide_eq_false (by omega)
  go_enter Try.func32, Try.ntmps32
  go_wp2_with (first
    | (go_at_call 60; refine (impl_IsFinite_c _ _).mono ?_; rintro e w1 ⟨rfl, q, rfl⟩; rw [hf]))
  have hb0 : Below w.heap.size w ((w.drewN q).alloc (.cells #[] 46)) := (below_of_drewN w.heap.size w q).alloc (Nat.le_refl _) _
  have ho0 : Ow ((w.drewN q).alloc (.cells #[] 46)) w.heap.size 46 (.slice (some ⟨w.heap.size, 0, none⟩) 0 0) ((fourL (ps.take 0)).map (Value.float .f32)) := own_empty (w.drewN q) w.heap.size 46 (Nat.le_refl _)
  clear hf hgt hd80
  go_loopw [6, 25] (fun v i wr => ∃ k : Nat, k ≤ n ∧ i = .int .i64 (k : Int) ∧ Ow wr w.heap.size 46 v ((fourL (ps.take k)).map (Value.float .f32)) ∧ Below w.heap.size w wr) (fun _ i _ => n - (intOf i).toNat)
  case atStart => exact ⟨0, Nat.zero_le _, rfl, ho0, hb0⟩
  case round =>
    obtain ⟨k, hk, rfl, ho, hb⟩ := hrel
    clear ho0 hb0
    by_cases hlt : k < n
    · obtain ⟨b, off, rfl, hbb, hc1⟩ := (HX.out.below hb).get k (by omega)
      obtain ⟨p, hp⟩ : ∃ p, ps[k]'(by omega) = p := ⟨_, rfl⟩
      rw [hp] at hc1
      obtain ⟨p1, p2⟩ := p
      unfold cB at hc1
      dsimp only at hc1
      have hsn := fourL_snoc (ps := ps) (k := k) (by omega)
      rw [hp] at hsn
      have HSN := Lib.hid hsn
      have hlen : ((fourL (ps.take k)).map (Value.float .f32)).length + 2 ≤ 1099511627776 := by rw [List.length_map, fourL_len, List.length_take]; omega
      have a1 := two_sg p1
      have a2 := two_sg p2
      have a3 := four_sg p1
      have a4 := four_sg p2
      have f1 : ∀ t d, fres .mul .f32 1073741824 (sgB p1) t d = twoB p1 := fun t d => by unfold fres; rw [a1]
      have f2 : ∀ t d, fres .mul .f32 1073741824 (sgB p2) t d = twoB p2 := fun t d => by unfold fres; rw [a2]
      have f3 : ∀ t d, fres .quo .f32 (twoB p1) 1056964608 t d = fourB p1 := fun t d => by unfold fres; rw [a3]
      have f4 : ∀ t d, fres .quo .f32 (twoB p2) 1056964608 t d = fourB p2 := fun t d => by unfold fres; rw [a4]
      have d1 : fdr .mul .f32 1073741824 (sgB p1) = 0 := by unfold fdr; rw [a1]
      have d2 : fdr .mul .f32 1073741824 (sgB p2) = 0 := by unfold fdr; rw [a2]
      have d3 : fdr .quo .f32 (twoB p1) 1056964608 = 0 := by unfold fdr; rw [a3]
      have d4 : fdr .quo .f32 (twoB p2) 1056964608 = 0 := by unfold fdr; rw [a4]
      have HB := Lib.hid hb
      have hz := hb.size
      clear hsn hp a1 a2 a3 a4 hb
      go_wp2_with fail
      refine (IsFiniteComplex_c wr p1 p2).mono ?_
      rintro e w2 ⟨rfl, q2, rfl⟩
      go_wp2_with (at_builtin; go_must (refine appN Try.underlying25 infoFloat32 rfl (by decide) rfl _ _ rfl _ _ _ rfl (own_dallocZ ho _) wr.heap.size 2 _ [_, _] rfl rfl (cells2z _ _ _ _ _) (by simp; exact ⟨rfl, rfl⟩) hlen (by simp; omega) ?_); intro v' w1 ho1 hb1)
      go_roundw
      case rel =>
        refine ⟨k + 1, by omega, by go_num, ?_, ((below_drewN HB.out _).alloc hz _).trans hb1⟩
        rw [HSN.out, List.map_append]
        exact ho1
      case measure => simp [intOf]; omega
    · obtain rfl : k = n := by omega
      rw [List.take_of_length_le (by omega)] at ho
      obtain ⟨V, kv, rfl, hpv⟩ := ho.opn
      have hfin := fourL_fin ps
      have HV := Lib.hid (impl_areFinite_c wr wr.heap.size V (fourL ps).length kv (fourL ps) rfl (by rw [fourL_len]; omega) (sl_of_own hpv))
      have HO := Lib.hid ho
      have HB := Lib.hid hb
      clear hpv ho hb
      go_wp2_with fail
      refine HV.out.mono ?_
      rintro e w2 ⟨rfl, q2, rfl⟩
      rw [hfin]
      go_wp2
      go_ret2
      exact ⟨_, rfl, HO.out, below_drewN HB.out q2⟩

end Go.Proofs.Ytopeidmafalklaa


namespace Go.Proofs.Ytopeidmafalklaa
open Go.RowKit

/-- a row's head and what it holds -/
abbrev RowHF := Option Addr × Nat × List Nat
def rowVF (r : RowHF) : Value := .slice r.1 r.2.2.length r.2.1
def datF (rs : List RowHF) : List (List Nat) := rs.map (·.2.2)
/-- rows of rows, to be read -/
def Sl2F (w : World) (B : Nat) (A : Option Addr) (rs : List RowHF) : Prop := Sl w B A (rs.map rowVF) ∧ ∀ r ∈ rs, Sl w B r.1 (r.2.2.map (Value.float .f32))
theorem Sl2F.below {w w' : World} {B : Nat} {A : Option Addr} {rs : List RowHF} (h : Sl2F w B A rs) (hb : Below B w w') : Sl2F w' B A rs := ⟨h.1.below hb, fun r hr => (h.2 r hr).below hb⟩
theorem Sl2F.more {w : World} {B B' : Nat} {A : Option Addr} {rs : List RowHF} (h : Sl2F w B A rs) (hB : B ≤ B') : Sl2F w B' A rs := ⟨h.1.more hB, fun r hr => (h.2 r hr).more hB⟩
theorem Sl2F.alloc {w : World} {B : Nat} {A : Option Addr} {rs : List RowHF} (h : Sl2F w B A rs) (hB : B ≤ w.heap.size) (o : Go.Obj) : Sl2F (w.alloc o) B A rs := h.below ((Below.refl _ _).alloc hB o)
theorem Sl2F.up {w w' : World} {A : Option Addr} {rs : List RowHF} (h : Sl2F w w.heap.size A rs) (hb : Below w.heap.size w w') : Sl2F w' w'.heap.size A rs := (h.below hb).more hb.size
theorem Sl2F.drewN {w : World} {B : Nat} {A : Option Addr} {rs : List RowHF} (h : Sl2F w B A rs) (n : Nat) : Sl2F (w.drewN n) B A rs := h

theorem dat_lenF (rs : List RowHF) : (datF rs).length = rs.length := List.length_map _
theorem dat_getF {rs : List RowHF} {k : Nat} (h : k < rs.length) : (datF rs)[k]'(by rw [dat_lenF]; exact h) = rs[k].2.2 := by simp [datF]




theorem infoFloat32s : (Try.prog.info? 25).map (fun i => (i.zero, i.size, i.bytes)) = some (some (.slice none 0 0), 1, 24) := by kernel_rfl

/-- a copy of rows of rows: its heads, and what they hold -/
def CopiedF (w : World) (B : Nat) (rs ys : List RowHF) : Prop := datF ys = datF rs ∧ ∀ y ∈ ys, w.ownsRow B 46 1 (rowVF y) y.2.2.length (y.2.2.map (Value.float .f32))
theorem CopiedF.sl {w : World} {B : Nat} {rs ys : List RowHF} (h : CopiedF w B rs ys) : ∀ y ∈ ys, Sl w w.heap.size y.1 (y.2.2.map (Value.float .f32)) := fun y hy => sl_of_own (h.2 y hy)

theorem rows_lenF {rs ys : List RowHF} (h : datF ys = datF rs) : ys.length = rs.length := by
  have := congrArg List.length h
  rwa [dat_lenF, dat_lenF] at this

theorem rows_shortF {rs ys : List RowHF} {n : Nat} (h : datF ys = datF rs) (hr : ∀ r ∈ rs, r.2.2.length ≤ n) : ∀ y ∈ ys, y.2.2.length ≤ n := by
  intro y hy
  have h1 : y.2.2 ∈ datF rs := by rw [← h]; exact List.mem_map_of_mem hy
  obtain ⟨r, h2, h3⟩ := List.mem_map.1 h1
  rw [← h3]
  exact hr r h2
theorem sl2_of_ownF {w : World} {base base2 : Nat} {A : Option Addr} {n cap : Nat} {ys : List RowHF} (ho : w.ownsRow base 25 1 (.slice A n cap) n (ys.map rowVF)) (hin : ∀ y ∈ ys, w.ownsRow base2 46 1 (rowVF y) y.2.2.length (y.2.2.map (Value.float .f32))) : Sl2F w w.heap.size A ys :=
  ⟨sl_of_own ho, fun y hy => sl_of_own (hin y hy)⟩


theorem eqFloat32S_at {w : World} {A B : Option Addr} {n cap cap' b1 b2 q m : Nat} {xs : List Nat} (hl : xs.length = n) (hn : n ≤ 1099511627776) (hx : Sl w b1 A (xs.map (Value.float .f32))) (hy : Sl w b2 B (xs.map (Value.float .f32))) :
    Calls Try.prog 10 #[.slice A n cap, .slice B n cap'] (w.drewN (q + m)) fun e w' => e = .returned (.bool true) ∧ ∃ k, w' = w.drewN (q + k) := by
  refine (eqFloat32S_t (w.drewN (q + m)) A B n cap cap' b1 b2 xs xs hl hn rfl hx hy).mono ?_
  rintro e w' ⟨rfl, k, rfl⟩
  exact ⟨rfl, m + k, by rw [World.drewN_drewN, Nat.add_assoc]⟩

theorem own_get {w : World} {base g n cap : Nat} {e : TypeId} {α : Type} {f : α → Value} {xs : List α} (h : w.ownsRow base e 1 (.slice (some ⟨g, 0, none⟩) n cap) n (xs.map f)) {j : Nat} (hj : j < xs.length) : w.cell? ⟨g, j, none⟩ = some (f (xs[j]'hj)) := by
  obtain ⟨b, off, he, _, hc⟩ := (sl_of_own h).get j hj
  injection he with he
  injection he with h1 h2
  subst h1 h2
  rwa [Nat.zero_add] at hc
/-- only blocks from c to d are turned -/
structure Spot (c d : Nat) (w w' : World) : Prop where
  os : w'.os = w.os
  tape : w'.tape = w.tape
  output : w'.output = w.output
  size : w.heap.size ≤ w'.heap.size
  block : ∀ i, i < w.heap.size → (i < c ∨ d ≤ i) → w'.heap[i]? = w.heap[i]?
theorem Spot.refl (c d : Nat) (w : World) : Spot c d w w := ⟨rfl, rfl, rfl, Nat.le_refl _, fun _ _ _ => rfl⟩
theorem Spot.trans {c d : Nat} {w w1 w2 : World} (h : Spot c d w w1) (g : Spot c d w1 w2) : Spot c d w w2 :=
  ⟨g.os.trans h.os, g.tape.trans h.tape, g.output.trans h.output, Nat.le_trans h.size g.size, fun i hi hc => (g.block i (Nat.lt_of_lt_of_le hi h.size) hc).trans (h.block i hi hc)⟩
theorem Spot.of_grown {c d : Nat} {w w' : World} {v : Value} (h : w.grownBy w' v.ownBlock) (hv : In v c d) : Spot c d w w' :=
  ⟨h.os, h.tape, h.output, h.size, fun i hi hc => h.block i hi fun he => by
    have := hv i he.symm
    omega⟩
theorem Spot.of_below {c d : Nat} {w w' : World} (h : Below w.heap.size w w') : Spot c d w w' := ⟨h.os, h.tape, h.output, h.size, fun i hi _ => h.block i hi⟩
theorem own_spot {w w' : World} {base : Nat} {e : TypeId} {size n : Nat} {v : Value} {xs : List Value} {a b c d : Nat} (h : w.ownsRow base e size v n xs) (hs : Spot c d w w') (hv : In v a b) (ho : b ≤ c ∨ d ≤ a) : w'.ownsRow base e size v n xs := by
  refine ⟨h.1, ?_⟩
  rcases h.2 with hn | ⟨g, cap, cur, rfl, hbg, hg, rest⟩
  · exact .inl hn
  · refine .inr ⟨g, cap, cur, rfl, hbg, ?_, rest⟩
    have h1 := hv g rfl
    rw [hs.block g (Array.getElem?_eq_some_iff.1 hg).1 (by omega)]
    exact hg
theorem cell_spot {w w' : World} {p : Addr} {c d : Nat} (hs : Spot c d w w') (hp : p.block < w.heap.size) (ho : p.block < c ∨ d ≤ p.block) : w'.cell? p = w.cell? p := by
  unfold World.cell?
  rw [hs.block p.block hp ho]
theorem below_spot {B c d : Nat} {w w1 w' : World} (h : Below B w w1) (hs : Spot c d w1 w') (hc : B ≤ c) (hz : B ≤ w1.heap.size) : Below B w w' :=
  ⟨hs.os.trans h.os, hs.tape.trans h.tape, hs.output.trans h.output, Nat.le_trans h.size hs.size, fun i hi => (hs.block i (by omega) (.inl (by omega))).trans (h.block i hi)⟩
/-- rows stay rows where one of them is written -/
theorem owned_kept {w w' : World} {base : Nat} {e : TypeId} {v : Value} {n m cap : Nat} {A : Option Addr} {ms zs : List Value} (h : ∃ xs, w.ownsRow base e 1 v n xs) (hm : w.ownsRow base e 1 (.slice A m cap) m ms) (hm' : w'.ownsRow base e 1 (.slice A m cap) m zs) (hg : w.grownBy w' (Value.slice A m cap).ownBlock) : ∃ xs, w'.ownsRow base e 1 v n xs := by
  obtain ⟨xs, h0⟩ := h
  by_cases hb : ∃ g, v.ownBlock = some g ∧ (Value.slice A m cap).ownBlock = some g
  · obtain ⟨g, h1, h2⟩ := hb
    rcases h0.2 with ⟨rfl, hn⟩ | ⟨g1, c1, cur1, rfl, hbg, hg1, hn1, hc1, hs1, ht1⟩
    · cases h1
    · rcases hm.2 with ⟨he, _⟩ | ⟨g2, c2, cur2, he, hbg2, hg2, hn2, hc2, hs2, ht2⟩
      · rw [he] at h2; cases h2
      · rcases hm'.2 with ⟨he', _⟩ | ⟨g3, c3, cur3, he', hbg3, hg3, hn3, hc3, hs3, ht3⟩
        · rw [he'] at h2; cases h2
        · rw [he] at h2
          injection he.symm.trans he' with ha hb hc
          injection ha with ha
          injection ha with ha1
          injection h1 with h1
          injection h2 with h2
          have e1 : g1 = g := h1
          have e2 : g2 = g := h2
          subst e1
          subst e2
          subst ha1
          subst hc
          rw [hg1] at hg2
          injection hg2 with hg2
          injection hg2 with hg2
          subst hg2
          have hcc : c1 = c2 := by omega
          subst hcc
          exact ⟨cur3.toList.take (n * 1), by simp; omega, .inr ⟨_, c1, cur3, rfl, hbg, hg3, hn1, hc1, hs3, rfl⟩⟩
  · exact ⟨xs, h0.kept hg (by
      cases hv : v.ownBlock with
      | none => exact .inl rfl
      | some g => exact .inr fun he => hb ⟨g, hv, he.symm⟩)⟩
/-- rows of different types lie in different blocks -/
theorem own_types {w : World} {base base2 : Nat} {e e2 : TypeId} {v u : Value} {n m : Nat} {xs zs : List Value} (h : w.ownsRow base e 1 v n xs) (h2 : w.ownsRow base2 e2 1 u m zs) (hne : e ≠ e2) : ∀ g, v.ownBlock = some g → u.ownBlock ≠ some g := by
  intro g hg hu
  rcases h.2 with ⟨rfl, _⟩ | ⟨g1, c1, cur1, rfl, _, hg1, _⟩
  · cases hg
  · rcases h2.2 with ⟨rfl, _⟩ | ⟨g2, c2, cur2, rfl, _, hg2, _⟩
    · cases hu
    · injection hg with hg
      injection hu with hu
      have e1 : g1 = g := hg
      have e2 : g2 = g := hu
      subst e1
      subst e2
      rw [hg1] at hg2
      injection hg2 with hg2
      injection hg2 with _ h3
      exact hne h3

set_option maxHeartbeats 400000 in
theorem markFloat32S_big (w : World) (base : Nat) (A : Option Addr) (n cap : Nat) (xs : List Value) (hn : n ≤ 1099511627776) (k : Int) (h0 : 0 ≤ k) (hk : k ≤ 2199023255552) (ho : w.ownsRow base 46 1 (.slice A n cap) n xs) :
    Calls Try.prog 13 #[.slice A n cap, .int .i64 k] w fun e w' => e = .returned (.int .i64 (k + n)) ∧ w'.ownsRow base 46 1 (.slice A n cap) n (marks (fun q => .float .f32 (floatOfInt .f32 q)) k n) ∧ w.grownBy w' (Value.slice A n cap).ownBlock := by
  have hl : xs.length = n := by simpa using ho.1
  go_enter Try.func13, Try.ntmps13
  go_wp2
  go_loopw [1, 5] (fun q i wr => ∃ j : Nat, j ≤ n ∧ i = .int .i64 j ∧ q = .int .i64 (k + j) ∧ wr.ownsRow base 46 1 (.slice A n cap) n (marks (fun q => .float .f32 (floatOfInt .f32 q)) k j ++ xs.drop j) ∧ w.grownBy wr (Value.slice A n cap).ownBlock) (fun _ i _ => n - (intOf i).toNat)
  case atStart => exact ⟨0, Nat.zero_le _, rfl, by simp, by simpa [marks] using ho, World.grownBy.refl _ _⟩
  case round =>
    clear ho
    obtain ⟨j, hj, rfl, rfl, ho, hg⟩ := hrel
    by_cases hlt : j < n
    · obtain ⟨g, cap', hv, hbg, hgs⟩ := ho.form (by omega)
      injection hv with hv
      subst hv
      have hc := ho.cellAt j (by omega)
      have hf := ho.frozenAt j
      have hs := ho.stored j ((fun q => .float .f32 (floatOfInt .f32 q)) (k + (j : Int)))
      have hcell : ∃ u, wr.cell? ⟨g, j, none⟩ = some u := by
        rw [hc, List.getElem?_append_right (by rw [marks_length]; omega), marks_length, Nat.sub_self, List.getElem?_drop]
        exact ⟨_, List.getElem?_eq_getElem (by omega)⟩
      obtain ⟨u, hcu⟩ := hcell
      have HS := Lib.hid hs
      clear hc hs ho
      go_wp2
      try go_quiet (fail)
      go_wp2
      go_roundw
      case rel =>
        refine ⟨j + 1, by omega, by go_num, by go_num, ?_, only_setCell (p := ⟨g, j, none⟩) hg rfl _⟩
        have h1 := HS.out.1
        rw [marks_set _ _ _ n j hl hlt] at h1
        exact h1
      case measure => simp [intOf]; omega
    · have : j = n := by omega
      subst this
      go_wp2
      go_ret
      exact ⟨rfl, by simpa [List.drop_of_length_le (Nat.le_of_eq hl)] using ho, hg⟩


end Go.Proofs.Ytopeidmafalklaa


namespace Go.Proofs.Ytopeidmafalklaa
open Go.RowKit

/-- a row's head and what it holds -/
abbrev RowHB := Option Addr × Nat × List Bool
def rowVB (r : RowHB) : Value := .slice r.1 r.2.2.length r.2.1
def datB (rs : List RowHB) : List (List Bool) := rs.map (·.2.2)
/-- rows of rows, to be read -/
def Sl2B (w : World) (B : Nat) (A : Option Addr) (rs : List RowHB) : Prop := Sl w B A (rs.map rowVB) ∧ ∀ r ∈ rs, Sl w B r.1 (r.2.2.map Value.bool)
theorem Sl2B.below {w w' : World} {B : Nat} {A : Option Addr} {rs : List RowHB} (h : Sl2B w B A rs) (hb : Below B w w') : Sl2B w' B A rs := ⟨h.1.below hb, fun r hr => (h.2 r hr).below hb⟩
theorem Sl2B.more {w : World} {B B' : Nat} {A : Option Addr} {rs : List RowHB} (h : Sl2B w B A rs) (hB : B ≤ B') : Sl2B w B' A rs := ⟨h.1.more hB, fun r hr => (h.2 r hr).more hB⟩
theorem Sl2B.alloc {w : World} {B : Nat} {A : Option Addr} {rs : List RowHB} (h : Sl2B w B A rs) (hB : B ≤ w.heap.size) (o : Go.Obj) : Sl2B (w.alloc o) B A rs := h.below ((Below.refl _ _).alloc hB o)
theorem Sl2B.up {w w' : World} {A : Option Addr} {rs : List RowHB} (h : Sl2B w w.heap.size A rs) (hb : Below w.heap.size w w') : Sl2B w' w'.heap.size A rs := (h.below hb).more hb.size
theorem Sl2B.drewN {w : World} {B : Nat} {A : Option Addr} {rs : List RowHB} (h : Sl2B w B A rs) (n : Nat) : Sl2B (w.drewN n) B A rs := h

theorem dat_lenB (rs : List RowHB) : (datB rs).length = rs.length := List.length_map _
theorem dat_getB {rs : List RowHB} {k : Nat} (h : k < rs.length) : (datB rs)[k]'(by rw [dat_lenB]; exact h) = rs[k].2.2 := by simp [datB]

theorem rows_lenB {rs ys : List RowHB} (h : datB ys = datB rs) : ys.length = rs.length := by
  have := congrArg List.length h
  rwa [dat_lenB, dat_lenB] at this

theorem rows_shortB {rs ys : List RowHB} {n : Nat} (h : datB ys = datB rs) (hr : ∀ r ∈ rs, r.2.2.length ≤ n) : ∀ y ∈ ys, y.2.2.length ≤ n := by
  intro y hy
  have h1 : y.2.2 ∈ datB rs := by rw [← h]; exact List.mem_map_of_mem hy
  obtain ⟨r, h2, h3⟩ := List.mem_map.1 h1
  rw [← h3]
  exact hr r h2
theorem sl2_of_ownB {w : World} {base base2 : Nat} {A : Option Addr} {n cap : Nat} {ys : List RowHB} (ho : w.ownsRow base 41 1 (.slice A n cap) n (ys.map rowVB)) (hin : ∀ y ∈ ys, w.ownsRow base2 4 1 (rowVB y) y.2.2.length (y.2.2.map Value.bool)) : Sl2B w w.heap.size A ys :=
  ⟨sl_of_own ho, fun y hy => sl_of_own (hin y hy)⟩

theorem infoBools : (Try.prog.info? 41).map (fun i => (i.zero, i.size, i.bytes)) = some (some (.slice none 0 0), 1, 24) := by kernel_rfl

/-- the number behind all marks -/
def kAllB (k : Int) : List RowHB → Int
  | [] => k
  | y :: ys => kAllB (k + y.2.2.length) ys
theorem kAllB_snoc : ∀ (ys : List RowHB) (k : Int) (y : RowHB), kAllB k (ys ++ [y]) = kAllB k ys + y.2.2.length
  | [], _, _ => rfl
  | _ :: ys, _, y => kAllB_snoc ys _ y
theorem kAllB_bd : ∀ (ys : List RowHB) (k : Int), (∀ y ∈ ys, y.2.2.length ≤ 1048576) → k ≤ kAllB k ys ∧ kAllB k ys ≤ k + 1048576 * ys.length
  | [], k, _ => by simp [kAllB]
  | y :: ys, k, h => by
    have h1 := kAllB_bd ys (k + y.2.2.length) fun z hz => h z (List.mem_cons_of_mem _ hz)
    have h2 := h y List.mem_cons_self
    unfold kAllB
    simp only [List.length_cons]
    omega
/-- rows that are marked from k on -/
def MkB (w : World) (B : Nat) : Int → List RowHB → Prop
  | _, [] => True
  | k, y :: ys => w.ownsRow B 4 1 (rowVB y) y.2.2.length (marks (fun q => .bool (q % 3 == 0)) k y.2.2.length) ∧ MkB w B (k + y.2.2.length) ys
theorem MkB.snoc {w : World} {B : Nat} : ∀ {ys : List RowHB} {k : Int} {y : RowHB}, MkB w B k ys → w.ownsRow B 4 1 (rowVB y) y.2.2.length (marks (fun q => .bool (q % 3 == 0)) (kAllB k ys) y.2.2.length) → MkB w B k (ys ++ [y])
  | [], _, _, _, h => ⟨h, trivial⟩
  | _ :: ys, _, _, h, g => ⟨h.1, MkB.snoc (ys := ys) h.2 g⟩
theorem MkB.map {w w' : World} {B : Nat} : ∀ {ys : List RowHB} {k : Int}, MkB w B k ys → (∀ y ∈ ys, ∀ xs, w.ownsRow B 4 1 (rowVB y) y.2.2.length xs → w'.ownsRow B 4 1 (rowVB y) y.2.2.length xs) → MkB w' B k ys
  | [], _, _, _ => trivial
  | _ :: ys, _, h, g => ⟨g _ List.mem_cons_self _ h.1, MkB.map (ys := ys) h.2 fun y hy => g y (List.mem_cons_of_mem _ hy)⟩
theorem MkB.below {w w' : World} {B D : Nat} {ys : List RowHB} {k : Int} (h : MkB w B k ys) (hb : Below D w w') (hD : w.heap.size ≤ D) : MkB w' B k ys := h.map fun _ _ _ ho => own_below ho hb hD
theorem MkB.at_ {w : World} {B : Nat} : ∀ {ys : List RowHB} {k : Int} {j : Nat} (_ : MkB w B k ys) (hj : j < ys.length), w.ownsRow B 4 1 (rowVB ys[j]) ys[j].2.2.length (marks (fun q => .bool (q % 3 == 0)) (kAllB k (ys.take j)) ys[j].2.2.length)
  | _ :: _, _, 0, h, _ => h.1
  | _ :: ys, _, _ + 1, h, hj => MkB.at_ (ys := ys) h.2 (Nat.lt_of_succ_lt_succ hj)
/-- rows in blocks of their own -/
def sepB (a b : RowHB) : Prop := ∀ g, (rowVB a).ownBlock = some g → (rowVB b).ownBlock ≠ some g
theorem row_sepB {w w' : World} {base n : Nat} {e : TypeId} {a b : RowHB} {xs : List Value} (h : w.ownsRow base e 1 (rowVB a) n xs) (hs : sepB a b) (hg : w.grownBy w' (rowVB b).ownBlock) : w'.ownsRow base e 1 (rowVB a) n xs := by
  refine h.kept hg ?_
  cases hb : (rowVB a).ownBlock with
  | none => exact .inl rfl
  | some g => exact .inr fun he => hs g hb he.symm
theorem sepB_symm {a b : RowHB} (h : sepB a b) : sepB b a := fun g h1 h2 => h g h2 h1



end Go.Proofs.Ytopeidmafalklaa


namespace Go.Proofs.Ytopeidmafalklaa
open Go.RowKit

def waysOk (m : Int) (ms : List Int) (L : List (List Nat)) (wk : Int) : Bool := validCoderB m ms && decide (L.length ≤ 8) && inB wk 1 8 && L.all (bestOk m ms)
def waysL (m : Int) (ms : List Int) (L : List (List Nat)) (wk : Int) : List (List Bool) := if waysOk m ms L wk then L.map (bestL m ms) else []
theorem waysL_len (m : Int) (ms : List Int) (L : List (List Nat)) (wk : Int) : (waysL m ms L wk).length ≤ 8 := by
  unfold waysL
  split
  · rename_i h
    unfold waysOk at h
    simp only [Bool.and_eq_true, decide_eq_true_eq] at h
    rw [List.length_map]
    exact h.1.1.2
  · exact Nat.zero_le _
theorem waysL_row (m : Int) (ms : List Int) (L : List (List Nat)) (wk : Int) : ∀ l ∈ waysL m ms L wk, l.length ≤ 40 := by
  unfold waysL
  split
  · intro l hl
    obtain ⟨x, _, rfl⟩ := List.mem_map.1 hl
    exact bestL_len m ms x
  · intro l hl
    cases hl
/-- rows of bits that a call has made so far -/
def WaysInv (w wr : World) (v : Value) (L : List (List Bool)) (ys : List RowHB) : Prop :=
  datB ys = L ∧ (∀ y ∈ ys, wr.ownsRow w.heap.size 4 1 (rowVB y) y.2.2.length (y.2.2.map Value.bool)) ∧ ys.Pairwise sepB ∧ Ow wr w.heap.size 41 v (ys.map rowVB) ∧ Below w.heap.size w wr
theorem WaysInv.step {w wr w2 w3 : World} {v v' : Value} {L : List (List Bool)} {ys : List RowHB} {y : RowHB} (h : WaysInv w wr v L ys) (b2 : Below wr.heap.size wr w2) (hy : w2.ownsRow wr.heap.size 4 1 (rowVB y) y.2.2.length (y.2.2.map Value.bool)) (o : Go.Obj)
    (hg : (w2.alloc o).grownBy w3 v.ownBlock) (ho : Ow w3 w.heap.size 41 v' (ys.map rowVB ++ [rowVB y])) : WaysInv w w3 v' (L ++ [y.2.2]) (ys ++ [y]) := by
  obtain ⟨h1, h2, h3, h4, h5⟩ := h
  have hz := h5.size
  have h4b : w2.ownsRow w.heap.size 41 1 v (ys.map rowVB).length (ys.map rowVB) := own_below h4 b2 (Nat.le_refl _)
  have h4c := World.ownsRow.alloc h4b o
  have keep : ∀ (base : Nat) (u : Value) (k : Nat) (xs : List Value), w2.ownsRow base 4 1 u k xs → w3.ownsRow base 4 1 u k xs := fun base u k xs hu => by
    refine (World.ownsRow.alloc hu o).kept hg ?_
    cases hb : u.ownBlock with
    | none => exact .inl rfl
    | some g => exact .inr fun he => own_types (World.ownsRow.alloc hu o) h4c (by decide) g hb he.symm
  have hin : ∀ z ∈ ys, In (rowVB z) w.heap.size wr.heap.size := fun z hz' => own_in (h2 z hz')
  have hiy : In (rowVB y) wr.heap.size w2.heap.size := own_in hy
  refine ⟨by unfold datB at *; rw [List.map_append, h1]; rfl, ?_, ?_, by rw [List.map_append]; exact ho, ?_⟩
  · intro z hz'
    rcases List.mem_append.1 hz' with h6 | h6
    · exact keep _ _ _ _ (own_below (h2 z h6) b2 (Nat.le_refl _))
    · rw [List.mem_singleton.1 h6]
      exact keep _ _ _ _ (own_base hy hz)
  · rw [List.pairwise_append]
    refine ⟨h3, List.pairwise_singleton _ _, fun a ha b hb => ?_⟩
    rw [List.mem_singleton.1 hb]
    intro g h7 h8
    have h9 := hin a ha g h7
    have h10 := hiy g h8
    omega
  · exact ((h5.trans (b2.mono hz)).alloc (Nat.le_trans hz b2.size) o).grown hg (by have := b2.size; simp; omega) fun k hk => (h4c.lt k hk).1
theorem WaysInv.down {w w1 wr : World} {v : Value} {L : List (List Bool)} {ys : List RowHB} (h : WaysInv w1 wr v L ys) (hb : Below w.heap.size w w1) : WaysInv w wr v L ys :=
  ⟨h.1, fun y hy => own_base (h.2.1 y hy) hb.size, h.2.2.1, own_base h.2.2.2.1 hb.size, hb.trans (h.2.2.2.2.mono hb.size)⟩
/-- what is handed back -/
def WaysPost (w : World) (m : Int) (ms : List Int) (L : List (List Nat)) (wk : Int) (e : Ending) (w' : World) : Prop :=
  ∃ v ys, e = .returned (.tuple #[v, .bool (waysOk m ms L wk)]) ∧ WaysInv w w' v (waysL m ms L wk) ys
theorem ways_fail {w w' : World} {m : Int} {ms : List Int} {L : List (List Nat)} {wk : Int} (h : waysOk m ms L wk = false) (hb : Below w.heap.size w w') : WaysPost w m ms L wk (.returned (.tuple #[.slice none 0 0, .bool false])) w' := by
  refine ⟨.slice none 0 0, [], by rw [h], ?_⟩
  have : waysL m ms L wk = [] := by unfold waysL; rw [h]; rfl
  rw [this]
  exact ⟨rfl, fun y hy => (by cases hy), List.Pairwise.nil, ⟨rfl, .inl ⟨rfl, rfl⟩⟩, hb⟩
theorem ways_no {m : Int} {ms : List Int} {rs : List RowHF} {wk : Int} {k : Nat} (hk : k < rs.length) (h : bestOk m ms rs[k].2.2 = false) : waysOk m ms (datF rs) wk = false := by
  have : (datF rs).all (bestOk m ms) = false := by
    rw [List.all_eq_false]
    refine ⟨rs[k].2.2, ?_, by rw [h]; decide⟩
    unfold datF
    exact List.mem_map_of_mem (List.getElem_mem hk)
  unfold waysOk
  rw [this, Bool.and_false]
theorem ways_snoc {m : Int} {ms : List Int} {rs : List RowHF} {k : Nat} (hk : k < rs.length) : (datF (rs.take (k + 1))).map (bestL m ms) = (datF (rs.take k)).map (bestL m ms) ++ [bestL m ms rs[k].2.2] := by
  rw [List.take_succ_eq_append_getElem hk]
  unfold datF
  rw [List.map_append, List.map_append]
  rfl


set_option maxRecDepth 100000 in
set_option maxHeartbeats 2000000 in
theorem impl_WaysShared_c (w : World) (m : Int) (A : Option Addr) (k cap : Nat) (ms : List Int) (hl : ms.length = k) (hk : k ≤ 1048576) (hx : Sl w w.heap.size A (ms.map (Value.int .i64)))
    (A2 : Option Addr) (n cap2 : Nat) (rs : List RowHF) (hl2 : rs.length = n) (hn : n ≤ 1048576) (hr : ∀ r ∈ rs, r.2.2.length ≤ 1048576) (hy : Sl2F w w.heap.size A2 rs) (hA : ∀ r ∈ rs, RowA r.1 r.2.2.length r.2.1) (wk : Int) :
    Calls Try.prog 23 #[.agg #[.int .i64 m, .slice A k cap], .slice A2 n cap2, .int .i64 wk] w (WaysPost w m ms (datF rs) wk) := by
  obtain ⟨w1, e1⟩ : ∃ q : World, q = w.alloc (.cells #[.int .i64 m, .slice A k cap] 29) := ⟨_, rfl⟩
  have b1 : Below w.heap.size w w1 := by rw [e1]; exact (Below.refl _ _).alloc (Nat.le_refl _) _
  have z1 : w1.heap.size = w.heap.size + 1 := by rw [e1]; simp
  have hO : Obj w1 w.heap.size 29 #[.int .i64 m, .slice A k cap] := by rw [e1]; exact Obj.new _ _ _
  have hx1 := (hx.below b1).more b1.size
  have HV := Lib.hid (impl_ValidCoder_c w1 m A k cap ms hl hk hx1)
  have hy1 := (hy.below b1).more b1.size
  have C0 : w1.cell? ⟨w.heap.size, 0, none⟩ = some (.int .i64 m) := hO.cell 0
  have C1 : w1.cell? ⟨w.heap.size, 1, none⟩ = some (.slice A k cap) := hO.cell 1
  have HO := Lib.hid hO
  have HX := Lib.hid hx1
  have HY := Lib.hid hy1
  have HR := Lib.hid hr
  have HA := Lib.hid hA
  clear hx hy hO hr hA hx1 hy1
  cases hv : validCoderB m ms
  · have hno : waysOk m ms (datF rs) wk = false := by unfold waysOk; rw [hv]; rfl
    rw [hv] at HV
    have HNO := Lib.hid hno
    clear hv hno
    go_enter Try.func23, Try.ntmps23
    go_wp2_with (rw [← e1]; clear e1)
    refine HV.out.mono ?_
    rintro e w2 ⟨rfl, b2⟩
    go_wp2
    go_ret2
    exact ways_fail HNO.out (b1.trans (b2.mono b1.size))
  · rw [hv] at HV
    by_cases h8 : n ≤ 8
    · cases hw : inB wk 1 8
      · have hno : waysOk m ms (datF rs) wk = false := by unfold waysOk; rw [hw, Bool.and_false]; rfl
        have HNO := Lib.hid hno
        have HW := Lib.hid (fun W : World => impl_within_c W wk 1 8)
        rw [hw] at HW
        have h8d : decide (8 < (n : Int)) = false := decide_eq_false (by omega)
        clear hv hno hw
        go_enter Try.func23, Try.ntmps23
        go_wp2_with (rw [← e1]; clear e1)
        refine HV.out.mono ?_
        rintro e w2 ⟨rfl, b2⟩
        go_wp2_with (go_at_call 63; refine (HW.out _).mono ?_; rintro e w' ⟨rfl, rfl⟩)
        go_ret2
        exact ways_fail HNO.out (b1.trans (b2.mono b1.size))
      · have HW := Lib.hid (fun W : World => impl_within_c W wk 1 8)
        rw [hw] at HW
        have h8d : decide (8 < (n : Int)) = false := decide_eq_false (by omega)
        have hyes : (datF rs).all (bestOk m ms) = true → waysOk m ms (datF rs) wk = true := fun h => by
          unfold waysOk
          rw [hv, hw, h, dat_lenF, hl2, decide_eq_true h8]
          rfl
        have HYES := Lib.hid hyes
        clear hv hw hyes
        go_enter Try.func23, Try.ntmps23
        go_wp2_with (rw [← e1]; clear e1)
        refine HV.out.mono ?_
        rintro e w2 ⟨rfl, b2⟩
        have hz2 := b2.size
        have B2 : Below w.heap.size w w2 := b1.trans (b2.mono b1.size)
        clear C0 C1
        go_wp2_with (go_at_call 63; refine (HW.out _).mono ?_; rintro e w' ⟨rfl, rfl⟩)
        go_loopw [8, 30] (fun v i wr => ∃ (j : Nat) (ys : List RowHB), j ≤ n ∧ i = .int .i64 j ∧ Hid (WaysInv w2 wr v ((datF (rs.take j)).map (bestL m ms)) ys) ∧ Hid ((datF (rs.take j)).all (bestOk m ms) = true)) (fun _ i _ => n - (intOf i).toNat)
        case atStart =>
          refine ⟨0, [], Nat.zero_le _, rfl, Lib.hid ⟨rfl, fun y hy => (by cases hy), List.Pairwise.nil, own_empty _ _ _ (Nat.le_refl _), (Below.refl _ _).alloc (Nat.le_refl _) _⟩, Lib.hid rfl⟩
        case round =>
          obtain ⟨j, ys, hj, rfl, HI, HALL⟩ := hrel
          obtain ⟨wA, rfl⟩ : ∃ wA : World, wA = wr := ⟨_, rfl⟩
          have hbr : Below w2.heap.size w2 wA := HI.out.2.2.2.2
          have hbA : Below w.heap.size w wA := B2.trans (hbr.mono B2.size)
          have hb1A : Below w1.heap.size w1 wA := b2.trans (hbr.mono hz2)
          have hOA := HO.out.below hb1A HO.out.lt
          have C0 : wA.cell? ⟨w.heap.size, 0, none⟩ = some (.int .i64 m) := hOA.cell 0
          have C1 : wA.cell? ⟨w.heap.size, 1, none⟩ = some (.slice A k cap) := hOA.cell 1
          have hzA := hb1A.size
          clear hOA
          by_cases hlt : j < n
          · have hjr : j < rs.length := by omega
            obtain ⟨bb, off, rfl, hbb, hc1⟩ := (HY.out.below hb1A).1.get j hjr
            have hsl := (HY.out.below hb1A).2 (rs[j]'hjr) (List.getElem_mem _)
            have hrk := HR.out (rs[j]'hjr) (List.getElem_mem _)
            have hak := HA.out (rs[j]'hjr) (List.getElem_mem _)
            have hsn := ways_snoc (m := m) (ms := ms) hjr
            have hno := fun h => ways_no (m := m) (ms := ms) (wk := wk) hjr h
            have hal : (datF (rs.take (j + 1))).all (bestOk m ms) = ((datF (rs.take j)).all (bestOk m ms) && bestOk m ms (rs[j]'hjr).2.2) := by
              rw [List.take_succ_eq_append_getElem hjr]
              unfold datF
              rw [List.map_append, List.all_append]
              simp
            obtain ⟨⟨a, c, l⟩, hxx⟩ : ∃ x, rs[j]'hjr = x := ⟨_, rfl⟩
            rw [hxx] at hc1 hsl hrk hak hsn hno hal
            simp only [rowVF] at hc1 hsl hrk hak
            have HB := Lib.hid (impl_BestWay_c wA m A k cap ms hl hk ((HX.out.below hb1A).more hzA) a l.length c l rfl hrk (hsl.more hzA) hak)
            have HSN := Lib.hid hsn
            have HNO := Lib.hid hno
            have HAL := Lib.hid hal
            clear hsl hrk hak hsn hno hal hxx
            go_wp2_with fail
            refine HB.out.mono ?_
            rintro e w3 ⟨v3, g3, rfl, -, ho3, hb3⟩
            cases hbo : bestOk m ms l
            · have HBO := Lib.hid (HNO.out hbo)
              clear hbo
              go_wp2
              go_ret2
              exact ways_fail HBO.out (hbA.trans (hb3.mono hbA.size))
            · have hal2 := HAL.out
              rw [hbo, HALL.out, Bool.true_and] at hal2
              have HAL2 := Lib.hid hal2
              obtain ⟨S3, q3, rfl, hp3⟩ := ho3.opn
              have hIn := HI.out
              have hou := hIn.2.2.2.1
              have hlen : (ys.map rowVB).length + 1 ≤ 1099511627776 := by
                have h1 := congrArg List.length hIn.1
                rw [dat_lenB, List.length_map, dat_lenF, List.length_take] at h1
                rw [List.length_map]
                omega
              have hob := own_below hou hb3 (Nat.le_refl _)
              have HP3 := Lib.hid hp3
              have hz3 := hb3.size
              clear hbo hal2 hou hIn ho3 hp3
              go_wp2_with (at_builtin; refine appGW Try.underlying50 infoBools rfl (by decide) rfl _ _ rfl _ _ _ rfl (World.ownsRow.alloc hob _) _ _ _ rfl (cell_new1 _ _ _) rfl hlen (by have := hbr.size; simp; omega) ?_; intro v4 w4 ho4 hg4)
              go_roundw
              case rel =>
                refine ⟨j + 1, ys ++ [(S3, q3, bestL m ms l)], by omega, by go_num, Lib.hid ?_, HAL2⟩
                rw [HSN.out]
                exact HI.out.step hb3 HP3.out _ hg4 ho4
              case measure => simp [intOf]; omega
          · obtain rfl : j = n := by omega
            have hok := HYES.out (by have := HALL.out; rwa [List.take_of_length_le (by omega)] at this)
            have hiv := HI.out
            rw [List.take_of_length_le (by omega)] at hiv
            have HOK := Lib.hid hok
            have HIV := Lib.hid hiv
            clear hok hiv
            go_wp2
            go_ret2
            refine ⟨_, ys, by rw [HOK.out]; rfl, ?_⟩
            have : waysL m ms (datF rs) wk = (datF rs).map (bestL m ms) := by unfold waysL; rw [HOK.out]; rfl
            rw [this]
            exact HIV.out.down B2
    · have hno : waysOk m ms (datF rs) wk = false := by
        unfold waysOk
        rw [dat_lenF, hl2, decide_eq_false h8, Bool.and_false, Bool.false_and, Bool.false_and]
      have HNO := Lib.hid hno
      have h8d : decide (8 < (n : Int)) = true := decide_eq_true (by omega)
      clear hv hno
      go_enter Try.func23, Try.ntmps23
      go_wp2_with (rw [← e1]; clear e1)
      refine HV.out.mono ?_
      rintro e w2 ⟨rfl, b2⟩
      go_wp2
      go_ret2
      exact ways_fail HNO.out (b1.trans (b2.mono b1.size))


end Go.Proofs.Ytopeidmafalklaa


namespace Go.Proofs.Ytopeidmafalklaa
open Go.RowKit

set_option maxRecDepth 100000 in
theorem run_f32bitsX (b : Nat) (w : World) : (callFunc 95 #[.float .f32 b]).run Try.prog w = .ok (.value (.int .u32 (b : Int))) w :=
  (run_callFunc_extern (e := Extern.MathFloatBits.float32bits) Try.func95 (by kernel_rfl) (by kernel_rfl) (by kernel_rfl) (by kernel_rfl) _ w).trans rfl
set_option maxRecDepth 100000 in
theorem l01Bits_x (w : World) (x : Nat) (ho : FloatKind.f32.format.order x x = some Ordering.eq) : Calls Try.prog 85 #[.float .f32 x] w fun e w' => e = .returned (.int .i64 (IntKind.i64.wrap (x : Int))) ∧ w = w' := by
  have hfb := run_f32bitsX x
  obtain ⟨z, hz⟩ : ∃ z, IntKind.i64.wrap (x : Int) = z := ⟨_, rfl⟩
  rw [hz]
  go_enter Try.func85, Try.ntmps85
  go_wp2
  go_ret
  exact ⟨rfl, rfl⟩
set_option maxRecDepth 100000 in
theorem l01Same_x (w : World) (x : Nat) (ho : FloatKind.f32.format.order x x = some Ordering.eq) : Calls Try.prog 69 #[.float .f32 x, .float .f32 x] w fun e w' => e = .returned (.bool true) ∧ w = w' := by
  obtain ⟨z, hz⟩ : ∃ z, IntKind.i64.wrap (x : Int) = z := ⟨_, rfl⟩
  have hzz : (z == z) = true := by simp
  go_enter Try.func69, Try.ntmps69
  go_wp2_with fail
  refine (l01Bits_x w x ho).mono ?_
  rintro e w' ⟨rfl, rfl⟩
  rw [hz]
  go_wp2_with fail
  refine (l01Bits_x w x ho).mono ?_
  rintro e w' ⟨rfl, rfl⟩
  rw [hz]
  go_wp2
  go_ret
  exact ⟨rfl, rfl⟩
set_option maxRecDepth 100000 in
theorem SameNumber_x (w : World) (x : Nat) (ho : FloatKind.f32.format.order x x = some Ordering.eq) : Calls Try.prog 30 #[.float .f32 x, .float .f32 x] w fun e w' => e = .returned (.bool true) ∧ w = w' := by
  go_enter Try.func30, Try.ntmps30
  go_wp2_with fail
  refine (l01Same_x w x ho).mono ?_
  rintro e w' ⟨rfl, rfl⟩
  go_wp2
  go_ret
  exact ⟨rfl, rfl⟩
theorem order_refl {b : Int} {x : Nat} (q : Bd b b (some x)) : FloatKind.f32.format.order x x = some Ordering.eq := by
  obtain ⟨y, e, fy, -, -⟩ := q
  cases e
  show Ieee.single.order x x = _
  rw [order_valF fy fy, cmp_cases, if_neg (by omega), if_pos rfl]
theorem fl_self {x y : Nat} (h : fl .f32 x = some y) : x = y := by
  unfold fl at h
  split at h
  · exact nomatch h
  · cases h; rfl
theorem qt_of {js : List Int} (h : ∀ j ∈ js, -16 ≤ j ∧ j ≤ 16) : Qt (fun i => 16 * js.getD i 0) (js.map qW) := by
  intro i hi
  rw [List.length_map] at hi
  have e : (js.map qW).getD i 0 = qW (js.getD i 0) := by simp [List.getD, hi]
  have hj : js.getD i 0 = js[i] := by simp [List.getD, hi]
  obtain ⟨h1, h2⟩ := h _ (List.getElem_mem hi)
  rw [← hj] at h1 h2
  rw [e]
  show -256 ≤ 16 * js.getD i 0 ∧ 16 * js.getD i 0 ≤ 256 ∧ Bd (16 * js.getD i 0) (16 * js.getD i 0) _
  exact ⟨by omega, by omega, Bd.word (by omega)⟩
noncomputable def blkU : Code := ((Try.f4.body.bind (inM 14)).getD .skip)
noncomputable def behU : Code := ((Try.f4.body.bind (behM 14)).getD .skip)
/-- what is known of the lists -/
structure WF (w : World) (M n k L G g9 : Nat) (V Vb V4 V5 V6 V7 V8 X9 Y9 : Option Addr) (kv kb k4 k5 k6 k7 k8 kx ky : Nat) (ms : List Int) (bs : List Bool) (aR : List Nat) (X : World) : Prop where
  cd : Sl X X.heap.size V (ms.map (Value.int .i64))
  c0 : X.cell? ⟨G, 0, none⟩ = some (.int .i64 (M : Int))
  c1 : X.cell? ⟨G, 1, none⟩ = some (.slice V k kv)
  bel : Below w.heap.size w X
  bits : Sl X X.heap.size Vb (bs.map Value.bool)
  sent : Sl X X.heap.size V4 ((snt M n ms bs).map Value.bool)
  soft : Sl X X.heap.size V5 ((soft8 M n ms bs).map (Value.float .f32))
  hard : Sl X X.heap.size V6 ((snt M n ms bs).map Value.bool)
  back : Sl X X.heap.size V7 (bs.map Value.bool)
  all : Sl X X.heap.size V8 (aR.map (Value.float .f32))
  s0 : X.cell? ⟨g9, 0, none⟩ = some (.slice X9 n kx)
  s1 : X.cell? ⟨g9, 1, none⟩ = some (.slice Y9 n ky)
  one : Sl X X.heap.size X9 (bs.map Value.bool)
  two : Sl X X.heap.size Y9 (bs.map Value.bool)

set_option maxRecDepth 1000000 in
set_option maxHeartbeats 20000000 in
theorem tailU (w W : World) (A1 : Option Addr) (n1 cap1 : Nat) (c : List Int) (hl1 : c.length = n1) (hn1 : n1 ≤ 1048576) (HBB1 : Hid (∀ x ∈ c, 0 ≤ x ∧ x ≤ 255)) (HX1 : Hid (Sl w w.heap.size A1 (c.map (Value.int .u8))))
    (M n k L G g9 k9 : Nat) (V Vb V4 V5 V6 V7 V8 X9 Y9 : Option Addr) (kv kb k4 k5 k6 k7 k8 kx ky g7 : Nat) (ms : List Int) (bs : List Bool) (aR : List Nat) (HCD : Hid (Cd M n ms bs)) (HVC : Hid (validCoderB (M : Int) ms = true)) (HK : Hid (ms.length = k)) (HL : Hid ((n + M) * k = L)) (hM1 : 1 ≤ M) (hM3 : M ≤ 3) (hk1 : 1 ≤ k) (hk3 : k ≤ 3) (hn5 : n ≤ 5) (hL24 : L ≤ 24) (hbl : bs.length = n)
    (HSL : Hid ((snt M n ms bs).length = L)) (_HSL5 : Hid ((soft8 M n ms bs).length = L)) (_HSF : Hid (softB (soft8 M n ms bs) = true)) (_HG7 : Hid (Bd (512 * (L : Int)) (512 * (L : Int)) (fl .f32 g7))) (HY2 : Hid (aR.length = n)) (HY3 : Hid (∀ i, i < n → (FloatKind.f32.format.order (aR.getD i 0) 0 == some Ordering.gt) = bs.getD i false))
    (_hG : G < W.heap.size) (HST : Hid (∀ X, Below W.heap.size W X → WF w M n k L G g9 V Vb V4 V5 V6 V7 V8 X9 Y9 kv kb k4 k5 k6 k7 k8 kx ky ms bs aR X))
    (K0 : Act → World → Prop) (hK0 : ∀ a w', Code.wp Try.prog behU (bodyPost Try.prog Try.f4 (fun e w' => e = .returned (.bool true) ∧ Below w.heap.size w w')) a w' → K0 a w')
    (u1 u2 u3 u4 u21 u22 u23 u24 u25 u26 u27 u28 u29 u30 u31 u32 u33 u34 u35 u36 u37 u38 u39 u40 u41 u42 u43 u44 u45 u46 u47 u48 u49 u50 u51 u52 u53 u54 u55 u56 u57 u58 u59 u60 u61 u62 u63 u64 u65 u66 u67 u68 u69 u70 u71 u72 u73 u74 u75 u76 u77 u78 u79 u80 u81 u82 u83 u84 u85 u86 u87 u88 u89 u90 u91 u92 u93 u94 u95 u96 u97 u98 u99 u100 u101 u102 u103 u104 u105 u106 u107 u108 u109 u110 u111 u112 u113 u114 u115 u116 u117 u118 u119 u120 u121 u122 u123 u124 u125 u126 u127 u128 u129 u130 u131 u132 u133 u134 u135 u136 u137 u138 u139 u140 u141 u142 u143 u144 u145 u146 u147 u148 u149 u150 u151 u152 u153 u154 u155 u156 u157 u158 u159 u160 u161 u162 u163 u164 u165 u166 u167 u168 u169 u170 u171 u172 u173 u174 u175 u176 u177 u178 u179 u180 u181 u185 u186 u187 u188 u189 u190 u191 u192 u193 u194 u195 u196 u197 u198 u199 u200 u201 u202 u203 u204 u205 u206 u207 u208 u209 u210 u211 u212 u213 u214 u215 u216 u217 u218 u219 u220 u221 u222 u223 u224 u225 u226 u227 u228 u229 u230 u231 u232 u233 u234 u235 u236 u237 u238 u239 u240 u241 u242 u243 u244 u245 u246 u247 u248 u249 u250 u251 u252 u253 u254 u255 u256 u257 u258 u259 u260 u261 u262 u263 u264 u265 u266 u267 u268 u269 u270 u271 u272 u273 u274 u275 u276 u277 u278 u279 u280 u281 u282 u283 u284 u285 u286 u287 u288 u289 u290 u291 u292 u293 u294 u295 u296 u297 u298 u299 u300 u301 u302 u303 u304 u305 u306 u307 u308 u309 u310 u311 u312 u313 u314 u315 : Value) :
    Code.wp Try.prog blkU (Exit.then K0 (bodyPost Try.prog Try.f4 (fun e w' => e = .returned (.bool true) ∧ Below w.heap.size w w'))) ⟨#[.slice A1 n1 cap1, u1, u2, u3, u4, .pointer (some ⟨G, 0, none⟩), .int .i64 (n : Int), .slice Vb n kb, .slice V4 L k4, .bool true, .slice V5 L k5, .bool true, .slice V6 L k6, .bool true, .slice V7 n k7, .float .f32 g7, .bool true, .slice V8 n k8, .bool true, .slice (some ⟨g9, 0, none⟩) 2 k9, .bool true, u21, u22, u23, u24, u25, u26, u27, u28, u29, u30, u31, u32, u33, u34, u35, u36, u37, u38, u39, u40, u41, u42, u43, u44, u45, u46, u47, u48, u49, u50, u51, u52, u53, u54, u55, u56, u57, u58, u59, u60, u61, u62, u63, u64, u65, u66, u67, u68, u69, u70, u71, u72, u73, u74, u75, u76, u77, u78, u79, u80, u81, u82, u83, u84, u85, u86, u87, u88, u89, u90, u91, u92, u93, u94, u95, u96, u97, u98, u99, u100, u101, u102, u103, u104, u105, u106, u107, u108, u109, u110, u111, u112, u113, u114, u115, u116, u117, u118, u119, u120, u121, u122, u123, u124, u125, u126, u127, u128, u129, u130, u131, u132, u133, u134, u135, u136, u137, u138, u139, u140, u141, u142, u143, u144, u145, u146, u147, u148, u149, u150, u151, u152, u153, u154, u155, u156, u157, u158, u159, u160, u161, u162, u163, u164, u165, u166, u167, u168, u169, u170, u171, u172, u173, u174, u175, u176, u177, u178, u179, u180, u181, .slice V8 n k8, .int .i64 (n : Int), .int .i64 0, u185, u186, u187, u188, u189, u190, u191, u192, u193, u194, u195, u196, u197, u198, u199, u200, u201, u202, u203, u204, u205, u206, u207, u208, u209, u210, u211, u212, u213, u214, u215, u216, u217, u218, u219, u220, u221, u222, u223, u224, u225, u226, u227, u228, u229, u230, u231, u232, u233, u234, u235, u236, u237, u238, u239, u240, u241, u242, u243, u244, u245, u246, u247, u248, u249, u250, u251, u252, u253, u254, u255, u256, u257, u258, u259, u260, u261, u262, u263, u264, u265, u266, u267, u268, u269, u270, u271, u272, u273, u274, u275, u276, u277, u278, u279, u280, u281, u282, u283, u284, u285, u286, u287, u288, u289, u290, u291, u292, u293, u294, u295, u296, u297, u298, u299, u300, u301, u302, u303, u304, u305, u306, u307, u308, u309, u310, u311, u312, u313, u314, u315], []⟩ W := by
  obtain ⟨c0, hc0⟩ : ∃ c, behU = c := ⟨_, rfl⟩
  rw [hc0] at hK0
  conv at hc0 => lhs; whnf
  subst hc0
  conv => arg 2; whnf
  have hal := HY2.out
  go_wp2_with fail
  go_loopw [184] (fun i wr => ∃ (t q : Nat), t ≤ n ∧ i = .int .i64 (t : Int) ∧ wr = W.drewN q) (fun i _ => n - (intOf i).toNat)
  case atStart => exact ⟨0, 0, Nat.zero_le _, rfl, rfl⟩
  case round =>
    obtain ⟨t, q, ht, rfl, rfl⟩ := hrel
    have F := HST.out W (Below.refl _ _)
    by_cases hlt : t < n
    · obtain ⟨b, off, rfl, hbb, hc1⟩ := F.all.get t (by rw [HY2.out]; exact hlt)
      obtain ⟨b2, off2, rfl, hbb2, hc2⟩ := F.bits.get t (by rw [hbl]; exact hlt)
      have hgt := HY3.out t hlt
      obtain ⟨x, ex⟩ : ∃ x, aR[t]'(by rw [HY2.out]; exact hlt) = x := ⟨_, rfl⟩
      obtain ⟨y, ey⟩ : ∃ y, bs[t]'(by rw [hbl]; exact hlt) = y := ⟨_, rfl⟩
      have e1 : aR.getD t 0 = x := by rw [← ex]; simp [List.getD, show t < aR.length by omega]
      have e2 : bs.getD t false = y := by rw [← ey]; simp [List.getD, show t < bs.length by omega]
      rw [e1, e2] at hgt
      rw [ex] at hc1
      rw [ey] at hc2
      have hyy : (y != y) = false := by simp
      clear F ex ey e1 e2
      go_wp2_with fail
      go_quiet (fail)
      go_wp2
      go_roundw
      case rel => exact ⟨t + 1, _, by omega, by go_num, rfl⟩
      case measure => simp [intOf]; omega
    · obtain rfl : n = t := by omega
      obtain ⟨W1, eW1⟩ : ∃ x : World, x = W.drewN q := ⟨_, rfl⟩
      rw [← eW1]
      have HB1 := Lib.hid (show Below W.heap.size W W1 by rw [eW1]; exact below_of_drewN _ _ _)
      clear F eW1
      have hz1 := HB1.out.size
      have F1 := HST.out W1 HB1.out
      have HSO := Lib.hid (B10Soft_x W1 A1 n1 cap1 c hl1 hn1 HBB1.out ((HX1.out.below F1.bel).more F1.bel.size) L (by omega))
      clear F1
      go_wp2_with fail
      refine HSO.out.mono ?_
      rintro e w1 ⟨v, js, rfl, hjl, hjr, hoj, b1⟩
      obtain ⟨Vj, kj, rfl, hpj⟩ := hoj.opn
      rw [List.length_map, hjl] at hpj
      rw [List.length_map, hjl]
      have HJL := Lib.hid hjl
      have HJR := Lib.hid hjr
      have HST1 := Lib.hid (fun (X : World) (hX : Below w1.heap.size w1 X) => And.intro (HST.out X (HB1.out.trans ((b1.mono hz1).trans (hX.mono (Nat.le_trans hz1 b1.size))))) (own_below hpj hX (Nat.le_refl _)))
      have F1 := HST1.out w1 (Below.refl _ _)
      have g0 := F1.1.c0
      have g1 := F1.1.c1
      have hjw : (js.map qW).length = L := by rw [List.length_map, hjl]
      have HBE := Lib.hid (impl_BestWay_c w1 (M : Int) V k kv ms HK.out (by omega) F1.1.cd Vj L kj (js.map qW) hjw (by omega) (sl_of_own F1.2) (rowA_of F1.2))
      have HJW := Lib.hid hjw
      clear hoj hpj b1 F1 hjl hjr hjw HSO HB1
      go_wp2_with fail
      refine HBE.out.mono ?_
      rintro e w2 ⟨v2, gm, rfl, hgm, ho2, b2⟩
      obtain ⟨y1, V9, hV9, hB9, hS9⟩ := best_noisy HCD.out HVC.out (qt_of HJR.out) (by rw [HJW.out, HK.out, HL.out])
      rw [← hgm] at hB9
      obtain ⟨gx, hgx, fgx, gx1, gx2⟩ := hB9
      obtain rfl := fl_self hgx
      have hB9 : Bd V9 V9 (some gm) := ⟨gm, rfl, fgx, gx1, gx2⟩
      rw [y1]
      obtain ⟨lb, hlb⟩ : ∃ lb, bestL (M : Int) ms (js.map qW) = lb := ⟨_, rfl⟩
      rw [hlb] at ho2
      obtain ⟨V2, k2, rfl, hp2⟩ := ho2.opn
      have hz1 := (HST1.out w1 (Below.refl _ _)).1.bel.size
      have HST2 := Lib.hid (fun (X : World) (hX : Below w2.heap.size w2 X) => And.intro (HST1.out X (b2.trans (hX.mono b2.size))) (own_below hp2 hX (Nat.le_refl _)))
      have F2 := HST2.out w2 (Below.refl _ _)
      have g0 := F2.1.1.c0
      have g1 := F2.1.1.c1
      have HBE2 := Lib.hid (spec_BestWay_c w2 (M : Int) V k kv ms HK.out (by omega) F2.1.1.cd Vj L kj (js.map qW) HJW.out (by omega) (sl_of_own F2.1.2) (rowA_of F2.1.2))
      have HOK := Lib.hid y1
      have HLB := Lib.hid hlb
      have HGM := Lib.hid hgm
      have HB9 := Lib.hid hB9
      have HS9 := Lib.hid hS9
      have HV9 := Lib.hid hV9
      clear ho2 hp2 b2 F2 y1 hlb hgm hB9 hS9 hV9 hgx fgx gx1 gx2 HBE
      go_wp2_with fail
      refine HBE2.out.mono ?_
      rintro e w3 ⟨v3, gn, rfl, hgn, ho3, b3⟩
      rw [HOK.out]
      rw [HLB.out] at ho3
      have hgs : gn = gm := by
        rw [← HGM.out] at hgn
        obtain ⟨x, ex, -⟩ := HB9.out
        cases ex
        have e2 : fl .f32 gm = some gm := by
          obtain ⟨y, ey, fy, -, -⟩ := HB9.out
          cases ey
          unfold fl
          rw [if_neg (by rw [fin_nn fy]; simp)]
        rw [e2] at hgn
        exact fl_self hgn
      subst hgs
      obtain ⟨V3, k3, rfl, hp3⟩ := ho3.opn
      have HST3 := Lib.hid (fun (X : World) (hX : Below w3.heap.size w3 X) => And.intro (HST2.out X (b3.trans (hX.mono b3.size))) (own_below hp3 hX (Nat.le_refl _)))
      have F3 := HST3.out w3 (Below.refl _ _)
      obtain ⟨ln, hln⟩ : ∃ ln, lb.length = ln := ⟨_, rfl⟩
      have hln40 : ln ≤ 40 := by rw [← hln, ← HLB.out]; exact bestL_len ..
      rw [hln]
      have HBB := Lib.hid (b10Bools_t w3 w3.heap.size V2 V3 ln k2 ln k3 lb hln (by omega) rfl (by have h := sl_of_own F3.1.2; exact h) (by have h := sl_of_own F3.2; exact h))
      clear ho3 hp3 b3 F3 HBE2 g0 g1 hgn
      go_wp2_with fail
      refine HBB.out.mono ?_
      rintro e w' ⟨rfl, q3, rfl⟩
      obtain ⟨w4, ew4⟩ : ∃ x : World, x = w3.drewN q3 := ⟨_, rfl⟩
      rw [← ew4]
      have HB4 := Lib.hid (show Below w3.heap.size w3 w4 by (rw [ew4]; exact below_of_drewN _ _ _))
      clear ew4 HBB
      go_wp2_with fail
      refine (SameNumber_x w4 gn (order_refl HB9.out)).mono ?_
      rintro e w' ⟨rfl, rfl⟩
      go_wp2_with fail
      have HST4 := Lib.hid (fun (X : World) (hX : Below w4.heap.size w4 X) => HST3.out X (HB4.out.trans (hX.mono HB4.out.size)))
      have hSB : ∀ t, t ≤ L → (sumQ (snt M n ms bs) (fun i => 16 * js.getD i 0) t).natAbs ≤ 256 * t := by
        intro t
        induction t with
        | zero => intro _; exact Nat.le_refl _
        | succ t ih =>
          intro ht
          have h1 := ih (by omega)
          have h2 := HJR.out (js.getD t 0)
          have h3 : -16 ≤ js.getD t 0 ∧ js.getD t 0 ≤ 16 := by
            have hjt : t < js.length := by rw [HJL.out]; omega
            have e : js.getD t 0 = js[t] := by simp [List.getD, hjt]
            rw [e]
            exact HJR.out _ (List.getElem_mem hjt)
          show (sumQ (snt M n ms bs) (fun i => 16 * js.getD i 0) t + (if (snt M n ms bs).getD t false then 16 * js.getD t 0 else -(16 * js.getD t 0))).natAbs ≤ _
          split <;> omega
      have HSB := Lib.hid (fun (t : Nat) (ht : t ≤ L) => hSB t ht)
      clear hSB
      have hD0 : DD (sumQ (snt M n ms bs) (fun i => 16 * js.getD i 0) 0) 0 := ⟨by decide, by show valD 0 = 0 * _; rw [Int.zero_mul]; decide +kernel⟩
      go_loopw [29, 236] (fun s i wr => ∃ (t q x : Nat), t ≤ L ∧ i = .int .i64 (t : Int) ∧ s = .float .f64 x ∧ DD (sumQ (snt M n ms bs) (fun i => 16 * js.getD i 0) t) x ∧ wr = w4.drewN q) (fun _ i _ => L - (intOf i).toNat)
      case atStart => exact ⟨0, 0, 0, Nat.zero_le _, rfl, rfl, hD0, rfl⟩
      case round =>
        obtain ⟨t, q, x, ht, rfl, rfl, hxD, rfl⟩ := hrel
        clear hD0
        have F := HST4.out w4 (Below.refl _ _)
        by_cases hltL : t < L
        · have hnat : L ≤ 24 := hL24
          obtain ⟨b, off, rfl, hbb, hc1⟩ := F.1.1.1.sent.get t (by rw [HSL.out]; exact hltL)
          obtain ⟨b2, off2, rfl, hbb2, hc2⟩ := (sl_of_own F.1.1.2).get t (by rw [HJW.out]; exact hltL)
          obtain ⟨y, ey⟩ : ∃ y, (snt M n ms bs)[t]'(by rw [HSL.out]; exact hltL) = y := ⟨_, rfl⟩
          obtain ⟨u, eu⟩ : ∃ u, (js.map qW)[t]'(by rw [HJW.out]; exact hltL) = u := ⟨_, rfl⟩
          rw [ey] at hc1
          rw [eu] at hc2
          have e2 : (snt M n ms bs).getD t false = y := by rw [← ey]; simp [List.getD, show t < (snt M n ms bs).length by rw [HSL.out]; exact hltL]
          have e1 : (js.map qW).getD t 0 = u := by rw [← eu]; simp [List.getD, show t < js.length by rw [HJL.out]; exact hltL]
          have hq := (qt_of HJR.out t (by rw [HJW.out]; exact hltL)).2.2
          rw [e1] at hq
          obtain ⟨y2, hy, hyD⟩ := widen_DD (b := 16 * js.getD t 0) (by
            have hjt : t < js.length := by rw [HJL.out]; exact hltL
            have e : js.getD t 0 = js[t] := by simp [List.getD, hjt]
            have := HJR.out _ (List.getElem_mem hjt)
            rw [e]
            omega) hq
          have hjb : -16 ≤ js.getD t 0 ∧ js.getD t 0 ≤ 16 := by
            have hjt : t < js.length := by rw [HJL.out]; exact hltL
            have e : js.getD t 0 = js[t] := by simp [List.getD, hjt]
            have := HJR.out _ (List.getElem_mem hjt)
            rw [e]
            exact this
          clear F ey eu hq
          cases y
          · obtain ⟨r, hr, hrD⟩ := sub_DD hxD hyD (by have := HSB.out t (by omega); omega)
            have p1 : fcvd .f32 u .f64 = 0 := by unfold fcvd; rw [hy]
            have p2 : ∀ T d, fcv .f32 u .f64 T d = y2 := fun T d => by unfold fcv; rw [hy]
            have p3 : ∀ T d, fres .sub .f64 x y2 T d = r := fun T d => by unfold fres; rw [hr]
            have p4 : fdr .sub .f64 x y2 = 0 := by unfold fdr; rw [hr]
            have hS' : sumQ (snt M n ms bs) (fun i => 16 * js.getD i 0) (t + 1) = sumQ (snt M n ms bs) (fun i => 16 * js.getD i 0) t - 16 * js.getD t 0 := by
              show sumQ _ _ t + _ = _
              rw [e2]
              simp only [↓reduceIte, Bool.false_eq_true]
              try omega
            have HRD := Lib.hid hrD
            have HS2 := Lib.hid hS'
            clear hr hrD hS' hxD hyD hy e1 e2
            go_wp2_with fail
            go_roundw
            case rel => exact ⟨t + 1, _, r, by omega, by go_num, rfl, by rw [HS2.out]; exact HRD.out, rfl⟩
            case measure => simp [intOf]; omega
          · obtain ⟨r, hr, hrD⟩ := add_DD hxD hyD (by have := HSB.out t (by omega); omega)
            have p1 : fcvd .f32 u .f64 = 0 := by unfold fcvd; rw [hy]
            have p2 : ∀ T d, fcv .f32 u .f64 T d = y2 := fun T d => by unfold fcv; rw [hy]
            have p3 : ∀ T d, fres .add .f64 x y2 T d = r := fun T d => by unfold fres; rw [hr]
            have p4 : fdr .add .f64 x y2 = 0 := by unfold fdr; rw [hr]
            have hS' : sumQ (snt M n ms bs) (fun i => 16 * js.getD i 0) (t + 1) = sumQ (snt M n ms bs) (fun i => 16 * js.getD i 0) t + 16 * js.getD t 0 := by
              show sumQ _ _ t + _ = _
              rw [e2]
              simp only [↓reduceIte]
              try omega
            have HRD := Lib.hid hrD
            have HS2 := Lib.hid hS'
            clear hr hrD hS' hxD hyD hy e1 e2
            go_wp2_with fail
            go_roundw
            case rel => exact ⟨t + 1, _, r, by omega, by go_num, rfl, by rw [HS2.out]; exact HRD.out, rfl⟩
            case measure => simp [intOf]; omega
        · obtain rfl : L = t := by omega
          have hSV : sumQ (snt M n ms bs) (fun i => 16 * js.getD i 0) L ≤ V9 := by
            have := HS9.out
            rw [HK.out, HL.out] at this
            exact this
          obtain ⟨y9, hy9, hyD⟩ := widen_DD (b := V9) (by have := HV9.out; omega) HB9.out
          obtain ⟨z9, hz9, hgt9⟩ := gain_test hSV HV9.out hxD hyD
          have p1 : fcvd .f32 gn .f64 = 0 := by unfold fcvd; rw [hy9]
          have p2 : ∀ T d, fcv .f32 gn .f64 T d = y9 := fun T d => by unfold fcv; rw [hy9]
          have p3 : ∀ T d, fres .add .f64 y9 4562254508917369340 T d = z9 := fun T d => by unfold fres; rw [hz9]
          have p4 : fdr .add .f64 y9 4562254508917369340 = 0 := by unfold fdr; rw [hz9]
          have p5 : (FloatKind.f64.format.order x z9 == some Ordering.gt) = false := hgt9
          have hL1 : 1 ≤ L := by rw [← HL.out]; exact Nat.mul_pos (by omega) (by omega)
          obtain ⟨w5, ew5⟩ : ∃ x : World, x = w4.drewN q := ⟨_, rfl⟩
          rw [← ew5]
          have HB5 := Lib.hid (show Below w4.heap.size w4 w5 by (rw [ew5]; exact below_of_drewN _ _ _))
          have HF5 := Lib.hid (HST4.out w5 HB5.out)
          clear F ew5 hy9 hz9 hgt9 hyD hxD hSV
          by_cases hev : L % 2 = 0
          · have hmod : ((L : Int)).tmod 2 = 0 := by rw [Int.tmod_eq_emod_of_nonneg (by omega)]; omega
            have hpo : ptsOk (snt M n ms bs) = true := by unfold ptsOk; rw [HSL.out, decide_eq_true (by omega), hev]; rfl
            have HPO := Lib.hid hpo
            have HPT := Lib.hid (impl_PointsOf_c w5 V4 L k4 (snt M n ms bs) HSL.out (by omega) HF5.out.1.1.1.sent)
            clear hpo
            go_wp2_with fail
            refine HPT.out.mono ?_
            rintro e w6 ⟨v6, rfl, ho6, b6⟩
            rw [HPO.out]
            have hpl : (ptsB (snt M n ms bs)).length = L / 2 := by
              unfold ptsB
              rw [HPO.out, if_pos rfl, List.length_map, List.length_range, HSL.out]
            obtain ⟨P6, kp6, rfl, hp6⟩ := ho6.opn
            rw [hpl] at hp6
            rw [hpl]
            have HSP := Lib.hid (SoftPoints_c w6 P6 (L / 2) kp6 (ptsB (snt M n ms bs)) hpl (by omega) (by have h := sl_of_own hp6; exact h))
            have HB6 := Lib.hid (HB5.out.trans (b6.mono HB5.out.size))
            have HPL := Lib.hid hpl
            clear ho6 hp6 b6 hpl HPT HF5
            go_wp2_with fail
            refine HSP.out.mono ?_
            rintro e w7 ⟨v7, rfl, ho7, b7⟩
            obtain ⟨P7, kp7, rfl, hp7⟩ := ho7.opn
            have hfl4 : (fourL (ptsB (snt M n ms bs))).length = L := by rw [fourL_len, HPL.out]; omega
            rw [hfl4] at hp7
            rw [hfl4]
            have HB7 := Lib.hid (HB6.out.trans (b7.mono HB6.out.size))
            have F7 := HST4.out w7 HB7.out
            obtain ⟨bb, off, rfl, hbb, hc1⟩ := F7.1.1.1.sent.get 0 (by rw [HSL.out]; omega)
            obtain ⟨bb2, off2, rfl, hbb2, hc2⟩ := (sl_of_own hp7).get 0 (by rw [hfl4]; omega)
            have hBT := fun (qq : Nat) => b10Bools_t (w7.drewN qq) w7.heap.size (some ⟨bb, off, none⟩) V6 L k4 L k6 (snt M n ms bs) HSL.out (by omega) rfl (F7.1.1.1.sent.drewN qq) (F7.1.1.1.hard.drewN qq)
            have hbel := F7.1.1.1.bel
            clear F7 ho7 hp7 b7 HSP
            have hx1 : (fourL (ptsB (snt M n ms bs)))[0]'(by rw [hfl4]; omega) = fourB ((snt M n ms bs)[0]'(by rw [HSL.out]; omega)) := by
              have h0 : ptsB (snt M n ms bs) = (List.range (L / 2)).map (ptB (snt M n ms bs)) := by
                unfold ptsB
                rw [HPO.out, if_pos rfl, HSL.out]
              have h1 : (fourL (ptsB (snt M n ms bs))).getD 0 0 = fourB ((snt M n ms bs).getD 0 false) := by
                rw [h0]
                obtain ⟨j, hj⟩ : ∃ j, L / 2 = j + 1 := ⟨L / 2 - 1, by omega⟩
                rw [hj, List.range_succ_eq_map]
                rfl
              have e1 : (fourL (ptsB (snt M n ms bs))).getD 0 0 = (fourL (ptsB (snt M n ms bs)))[0]'(by rw [hfl4]; omega) := by simp [List.getD, show 0 < (fourL (ptsB (snt M n ms bs))).length by rw [hfl4]; omega]
              have e2 : (snt M n ms bs).getD 0 false = (snt M n ms bs)[0]'(by rw [HSL.out]; omega) := by simp [List.getD, show 0 < (snt M n ms bs).length by rw [HSL.out]; omega]
              rw [← e1, ← e2, h1]
            rw [hx1] at hc2
            obtain ⟨y, ey⟩ : ∃ y, (snt M n ms bs)[0]'(by rw [HSL.out]; omega) = y := ⟨_, rfl⟩
            rw [ey, Nat.add_zero] at hc1
            rw [ey, Nat.add_zero] at hc2
            have hfo : (FloatKind.f32.format.order (fourB y) 0 == some Ordering.gt) = y := by cases y <;> decide +kernel
            have hyy : (y == y) = true := by simp
            obtain ⟨H, hH⟩ : ∃ H, L / 2 = H := ⟨_, rfl⟩
            have hq2 : ((L : Int)).tdiv 2 = (H : Int) := by rw [Int.tdiv_eq_ediv_of_nonneg (by omega)]; omega
            have hq3 : IntKind.i64.wrap ((L : Int).tdiv 2) = (H : Int) := by rw [hq2]; exact IntWalk.i64_in _ (by omega)
            have hq4 : IntKind.i64.wrap (H : Int) = (H : Int) := IntWalk.i64_in _ (by omega)
            have hLL : (((H : Int)) == (H : Int)) = true := by simp
            have hL00 : decide ((L : Int) = 0) = false := decide_eq_false (by omega)
            have hLp : (0 : Int) < (L : Int) := by omega
            rw [hH]
            have hL2 : ((L : Int) == (L : Int)) = true := by simp
            have hL0 : ((L : Int) == 0) = false := by rw [beq_eq_false_iff_ne]; omega
            clear hx1 ey hfl4
            go_wp2_with fail
            go_quiet ((go_at_call 27; exact Calls.quiet_of (hBT _)))
            go_wp2
            go_ret
            exact ⟨rfl, below_drewN hbel _⟩
          · have hmod : ((L : Int)).tmod 2 = 1 := by rw [Int.tmod_eq_emod_of_nonneg (by omega)]; omega
            go_wp2_with fail
            go_ret
            exact ⟨rfl, HF5.out.1.1.1.bel⟩

end Go.Proofs.Ytopeidmafalklaa


namespace Go.Proofs.Ytopeidmafalklaa
open Go.RowKit

theorem same_cd (m : Int) (ms : List Int) : sameCoderB m ms m ms = true := by unfold sameCoderB; simp
noncomputable def blkW : Code := ((Try.f4.body.bind (inM 11)).getD .skip)
set_option maxRecDepth 1000000 in
set_option maxHeartbeats 20000000 in
theorem tailW (w W : World) (A1 : Option Addr) (n1 cap1 : Nat) (c : List Int) (hl1 : c.length = n1) (hn1 : n1 ≤ 1048576) (HBB1 : Hid (∀ x ∈ c, 0 ≤ x ∧ x ≤ 255)) (HX1 : Hid (Sl w w.heap.size A1 (c.map (Value.int .u8))))
    (M n k L G g9 k9 : Nat) (V Vb V4 V5 V6 V7 V8 X9 Y9 : Option Addr) (kv kb k4 k5 k6 k7 k8 kx ky g7 : Nat) (ms : List Int) (bs : List Bool) (aR : List Nat) (HCD : Hid (Cd M n ms bs)) (HVC : Hid (validCoderB (M : Int) ms = true)) (HK : Hid (ms.length = k)) (HL : Hid ((n + M) * k = L)) (hM1 : 1 ≤ M) (hM3 : M ≤ 3) (hk1 : 1 ≤ k) (hk3 : k ≤ 3) (hn5 : n ≤ 5) (hL24 : L ≤ 24) (hbl : bs.length = n)
    (HSL : Hid ((snt M n ms bs).length = L)) (HSL5 : Hid ((soft8 M n ms bs).length = L)) (HSF : Hid (softB (soft8 M n ms bs) = true)) (HG7 : Hid (Bd (512 * (L : Int)) (512 * (L : Int)) (fl .f32 g7))) (HY2 : Hid (aR.length = n)) (HY3 : Hid (∀ i, i < n → (FloatKind.f32.format.order (aR.getD i 0) 0 == some Ordering.gt) = bs.getD i false))
    (hG : G < W.heap.size) (HST : Hid (∀ X, Below W.heap.size W X → WF w M n k L G g9 V Vb V4 V5 V6 V7 V8 X9 Y9 kv kb k4 k5 k6 k7 k8 kx ky ms bs aR X))
    (u1 u2 u3 u4 u21 u22 u23 u24 u25 u26 u27 u28 u29 u30 u31 u32 u33 u34 u35 u36 u37 u38 u39 u40 u41 u42 u43 u44 u45 u46 u47 u48 u49 u50 u51 u52 u53 u54 u55 u56 u57 u58 u59 u60 u61 u62 u63 u64 u65 u66 u67 u68 u69 u70 u71 u72 u73 u74 u75 u76 u77 u78 u79 u80 u81 u82 u83 u84 u85 u86 u87 u88 u89 u90 u91 u92 u93 u94 u95 u96 u97 u98 u99 u100 u101 u102 u103 u104 u105 u106 u107 u108 u109 u110 u111 u112 u113 u114 u115 u116 u117 u118 u119 u120 u121 u122 u123 u124 u125 u126 u127 u128 u129 u130 u131 u132 u133 u134 u135 u136 u137 u138 u139 u140 u141 u142 u143 u144 u145 u146 u147 u148 u149 u150 u151 u152 u153 u154 u155 u156 u157 u158 u159 u160 u161 u162 u163 u164 u165 u166 u167 u168 u169 u170 u171 u172 u173 u174 u175 u176 u177 u178 u179 u180 u181 u182 u183 u184 u185 u186 u187 u188 u189 u190 u191 u192 u193 u194 u195 u196 u197 u198 u199 u200 u201 u202 u203 u204 u205 u206 u207 u208 u209 u210 u211 u212 u213 u214 u215 u216 u217 u218 u219 u220 u221 u222 u223 u224 u225 u226 u227 u228 u229 u230 u231 u232 u233 u234 u235 u236 u237 u238 u239 u240 u241 u242 u243 u244 u245 u246 u247 u248 u249 u250 u251 u252 u253 u254 u255 u256 u257 u258 u259 u260 u261 u262 u263 u264 u265 u266 u267 u268 u269 u270 u271 u272 u273 u274 u275 u276 u277 u278 u279 u280 u281 u282 u283 u284 u285 u286 u287 u288 u289 u290 u291 u292 u293 u294 u295 u296 u297 u298 u299 u300 u301 u302 u303 u304 u305 u306 u307 u308 u309 u310 u311 u312 u313 u314 u315 : Value) :
    Code.wp Try.prog blkW (bodyPost Try.prog Try.f4 (fun e w' => e = .returned (.bool true) ∧ Below w.heap.size w w')) ⟨#[.slice A1 n1 cap1, u1, u2, u3, u4, .pointer (some ⟨G, 0, none⟩), .int .i64 (n : Int), .slice Vb n kb, .slice V4 L k4, .bool true, .slice V5 L k5, .bool true, .slice V6 L k6, .bool true, .slice V7 n k7, .float .f32 g7, .bool true, .slice V8 n k8, .bool true, .slice (some ⟨g9, 0, none⟩) 2 k9, .bool true, u21, u22, u23, u24, u25, u26, u27, u28, u29, u30, u31, u32, u33, u34, u35, u36, u37, u38, u39, u40, u41, u42, u43, u44, u45, u46, u47, u48, u49, u50, u51, u52, u53, u54, u55, u56, u57, u58, u59, u60, u61, u62, u63, u64, u65, u66, u67, u68, u69, u70, u71, u72, u73, u74, u75, u76, u77, u78, u79, u80, u81, u82, u83, u84, u85, u86, u87, u88, u89, u90, u91, u92, u93, u94, u95, u96, u97, u98, u99, u100, u101, u102, u103, u104, u105, u106, u107, u108, u109, u110, u111, u112, u113, u114, u115, u116, u117, u118, u119, u120, u121, u122, u123, u124, u125, u126, u127, u128, u129, u130, u131, u132, u133, u134, u135, u136, u137, u138, u139, u140, u141, u142, u143, u144, u145, u146, u147, u148, u149, u150, u151, u152, u153, u154, u155, u156, u157, u158, u159, u160, u161, u162, u163, u164, u165, u166, u167, u168, u169, u170, u171, u172, u173, u174, u175, u176, u177, u178, u179, u180, u181, u182, u183, u184, u185, u186, u187, u188, u189, u190, u191, u192, u193, u194, u195, u196, u197, u198, u199, u200, u201, u202, u203, u204, u205, u206, u207, u208, u209, u210, u211, u212, u213, u214, u215, u216, u217, u218, u219, u220, u221, u222, u223, u224, u225, u226, u227, u228, u229, u230, u231, u232, u233, u234, u235, u236, u237, u238, u239, u240, u241, u242, u243, u244, u245, u246, u247, u248, u249, u250, u251, u252, u253, u254, u255, u256, u257, u258, u259, u260, u261, u262, u263, u264, u265, u266, u267, u268, u269, u270, u271, u272, u273, u274, u275, u276, u277, u278, u279, u280, u281, u282, u283, u284, u285, u286, u287, u288, u289, u290, u291, u292, u293, u294, u295, u296, u297, u298, u299, u300, u301, u302, u303, u304, u305, u306, u307, u308, u309, u310, u311, u312, u313, u314, u315], []⟩ W := by
  conv => arg 2; whnf
  have F := HST.out W (Below.refl _ _)
  have HF := Lib.hid F
  obtain ⟨f1, f2, f3, f4, f5, f6, f7, f8, f9, f10, f11, f12, f13, f14⟩ := F
  clear f1 f4 f5 f6 f7 f8 f9 f10 f11 f12 f13 f14
  go_wp2_with fail
  refine (impl_ValidCoder_c W (M : Int) V k kv ms HK.out (by omega) HF.out.cd).mono ?_
  rintro e w10 ⟨rfl, b10⟩
  rw [HVC.out]
  have HB10 := Lib.hid b10
  have HF10 := Lib.hid (HST.out w10 b10)
  have g0 := HF10.out.c0
  have g1 := HF10.out.c1
  clear b10 f2 f3 HF
  go_wp2_with fail
  refine (impl_SameCoder_c w10 (M : Int) V k kv ms HK.out (by omega) HF10.out.cd (M : Int) V k kv ms HK.out (by omega) HF10.out.cd).mono ?_
  rintro e w11 ⟨rfl, b11⟩
  rw [same_cd]
  have HB11 := Lib.hid (HB10.out.trans (b11.mono HB10.out.size))
  have HF11 := Lib.hid (HST.out w11 HB11.out)
  clear b11 g0 g1 HF10
  go_wp2_with fail
  refine (impl_IsSoft_c w11 w11.heap.size V5 L k5 (soft8 M n ms bs) HSL5.out HF11.out.soft).mono ?_
  rintro e w' ⟨rfl, q11, rfl⟩
  rw [HSF.out]
  obtain ⟨w12, ew12⟩ : ∃ x : World, x = w11.drewN q11 := ⟨_, rfl⟩
  rw [← ew12]
  have HB12 := Lib.hid (show Below W.heap.size W w12 by (rw [ew12]; exact below_drewN HB11.out q11))
  have HF12 := Lib.hid (HST.out w12 HB12.out)
  have g0 := HF12.out.c0
  have g1 := HF12.out.c1
  clear ew12 HF11
  have hprod : ((n : Int) + (M : Int)) * (k : Int) = (L : Int) := by rw [← HL.out]; push_cast; rfl
  have HW3 := Lib.hid (show IntKind.i64.wrap (IntKind.i64.wrap ((n : Int) + (M : Int)) * (k : Int)) = (L : Int) by rw [IntWalk.i64_in ((n : Int) + (M : Int)) (by omega), hprod]; exact IntWalk.i64_in _ (by omega))
  have hLL : ((L : Int) != (L : Int)) = false := by simp
  have HNUM := Lib.hid (And.intro hn5 (And.intro hM1 (And.intro hM3 (And.intro hk1 (And.intro hk3 (And.intro hL24 (And.intro hG (And.intro hbl (And.intro hl1 hn1)))))))))
  clear hprod hn5 hM1 hM3 hk1 hk3 hL24 hG hbl hl1 hn1
  go_simp
  refine (‹∀ (a : Act) (w : World), wpList _ _ _ _ a w → _› _ _ ?_)

  iterate 13 (refine wpList_step (fun K2 hK2 => ?_); go_simp; refine hK2 _ _ ?_; clear hK2 K2)
  rw [HW3.out]
  iterate 5 (refine wpList_step (fun K2 hK2 => ?_); go_simp; refine hK2 _ _ ?_; clear hK2 K2)
  refine wpList_step (fun K2 hK2 => ?_)
  go_simp
  refine (b10Bools_t w12 w12.heap.size V6 V4 L k6 L k4 (snt M n ms bs) HSL.out (by have := HNUM.out; omega) rfl HF12.out.hard HF12.out.sent).mono ?_
  rintro e w' ⟨rfl, q12, rfl⟩
  go_simp
  refine hK2 _ _ ?_
  clear hK2 K2
  obtain ⟨w13, ew13⟩ : ∃ x : World, x = w12.drewN q12 := ⟨_, rfl⟩
  rw [← ew13]
  have HB13 := Lib.hid (show Below W.heap.size W w13 by (rw [ew13]; exact below_drewN HB12.out q12))
  have HF13 := Lib.hid (HST.out w13 HB13.out)
  clear ew13
  iterate 4 (refine wpList_step (fun K2 hK2 => ?_); go_simp; refine hK2 _ _ ?_; clear hK2 K2)
  iterate 1 (refine wpList_step (fun K2 hK2 => ?_); go_simp; refine hK2 _ _ ?_; clear hK2 K2)
  refine wpList_step (fun K2 hK2 => ?_)
  go_simp
  refine (b10Bools_t w13 w13.heap.size V7 Vb n k7 n kb bs HNUM.out.2.2.2.2.2.2.2.1 (by have := HNUM.out; omega) rfl HF13.out.back HF13.out.bits).mono ?_
  rintro e w' ⟨rfl, q13, rfl⟩
  go_simp
  refine hK2 _ _ ?_
  clear hK2 K2
  obtain ⟨w14, ew14⟩ : ∃ x : World, x = w13.drewN q13 := ⟨_, rfl⟩
  rw [← ew14]
  have HB14 := Lib.hid (show Below W.heap.size W w14 by (rw [ew14]; exact below_drewN HB13.out q13))
  have HF14 := Lib.hid (HST.out w14 HB14.out)
  clear ew14
  have hfl7 : fl .f32 g7 = some g7 := by
    obtain ⟨x, ex, -⟩ := HG7.out
    unfold fl at ex ⊢
    split at ex
    · exact nomatch ex
    · rename_i hn; rw [if_neg hn]
  have hq7 : Bd (512 * (L : Int)) (512 * (L : Int)) (some g7) := by rw [← hfl7]; exact HG7.out
  have ho7 := same_word (b := 512 * (L : Int)) (x := g7) (by have := HNUM.out; omega) hq7
  have a8 : floatBits .mul .f32 1090519040 (floatOfInt .f32 (L : Int)) = some (gW (512 * (L : Int))) := eight_len ⟨L, by have := HNUM.out; omega⟩
  obtain ⟨e8, he8⟩ : ∃ x, gW (512 * (L : Int)) = x := ⟨_, rfl⟩
  rw [he8] at ho7 a8
  have ho7 : FloatKind.f32.format.order g7 e8 = some Ordering.eq := ho7
  have f8 : ∀ t d, fres .mul .f32 1090519040 (floatOfInt .f32 (L : Int)) t d = e8 := fun t d => by unfold fres; rw [a8]
  have d8 : fdr .mul .f32 1090519040 (floatOfInt .f32 (L : Int)) = 0 := by unfold fdr; rw [a8]
  have hne8 : (FloatKind.f32.format.order g7 e8 != some Ordering.eq) = false := by rw [ho7]; rfl
  clear hfl7 hq7 a8 he8
  iterate 8 (refine wpList_step (fun K2 hK2 => ?_); go_simp; refine hK2 _ _ ?_; clear hK2 K2)
  have j0 := HF14.out.s0
  iterate 18 (refine wpList_step (fun K2 hK2 => ?_); go_simp; refine hK2 _ _ ?_; clear hK2 K2)
  refine wpList_step (fun K2 hK2 => ?_)
  go_simp
  refine (b10Bools_t w14 w14.heap.size X9 Vb n kx n kb bs HNUM.out.2.2.2.2.2.2.2.1 (by have := HNUM.out; omega) rfl HF14.out.one HF14.out.bits).mono ?_
  rintro e w' ⟨rfl, q14, rfl⟩
  go_simp
  refine hK2 _ _ ?_
  clear hK2 K2
  obtain ⟨w15, ew15⟩ : ∃ x : World, x = w14.drewN q14 := ⟨_, rfl⟩
  rw [← ew15]
  have HB15 := Lib.hid (show Below W.heap.size W w15 by (rw [ew15]; exact below_drewN HB14.out q14))
  have HF15 := Lib.hid (HST.out w15 HB15.out)
  clear ew15
  have j1 := HF15.out.s1
  clear j0
  iterate 7 (refine wpList_step (fun K2 hK2 => ?_); go_simp; refine hK2 _ _ ?_; clear hK2 K2)
  refine wpList_step (fun K2 hK2 => ?_)
  go_simp
  refine (b10Bools_t w15 w15.heap.size Y9 Vb n ky n kb bs HNUM.out.2.2.2.2.2.2.2.1 (by have := HNUM.out; omega) rfl HF15.out.two HF15.out.bits).mono ?_
  rintro e w' ⟨rfl, q15, rfl⟩
  go_simp
  refine hK2 _ _ ?_
  clear hK2 K2
  obtain ⟨w16, ew16⟩ : ∃ x : World, x = w15.drewN q15 := ⟨_, rfl⟩
  rw [← ew16]
  have HB16 := Lib.hid (show Below W.heap.size W w16 by (rw [ew16]; exact below_drewN HB15.out q15))
  have HF16 := Lib.hid (HST.out w16 HB16.out)
  clear ew16
  clear j1
  iterate 2 (refine wpList_step (fun K2 hK2 => ?_); go_simp; refine hK2 _ _ ?_; clear hK2 K2)
  refine wpList_nil ?_
  obtain ⟨q1, q2, q3, q4, q5, q6, q7, q8, q9, q10⟩ := HNUM.out
  have HST16 := Lib.hid (fun (X : World) (hX : Below w16.heap.size w16 X) => HST.out X (HB16.out.trans (hX.mono HB16.out.size)))
  have hG16 : G < w16.heap.size := Nat.lt_of_lt_of_le q7 HB16.out.size
  clear f8 d8 hne8 hLL g0 g1 HF12 HF13 HF14 HF15 HF16
  go_upto_region 14 with fail
  refine wp_region_lit ?_
  iterate 3 (refine wpList_step (fun K2 hK2 => ?_); go_simp; refine hK2 _ _ ?_; clear hK2 K2)
  refine wpList_nil ?_
  go_simp
  refine (‹∀ (a : Act) (w : World), Code.wp Try.prog _ _ a w → _› _ _ ?_ : _)
  exact tailU w w16 A1 n1 cap1 c q9 q10 HBB1 HX1 M n k L G g9 k9 V Vb V4 V5 V6 V7 V8 X9 Y9 kv kb k4 k5 k6 k7 k8 kx ky g7 ms bs aR HCD HVC HK HL q2 q3 q4 q5 q1 q6 q8 HSL HSL5 HSF HG7 HY2 HY3 hG16 HST16 _ ‹_› _ _ _ _ _ _ _ _ _ _ _ _ _ _ _ _ _ _ _ _ _ _ _ _ _ _ _ _ _ _ _ _ _ _ _ _ _ _ _ _ _ _ _ _ _ _ _ _ _ _ _ _ _ _ _ _ _ _ _ _ _ _ _ _ _ _ _ _ _ _ _ _ _ _ _ _ _ _ _ _ _ _ _ _ _ _ _ _ _ _ _ _ _ _ _ _ _ _ _ _ _ _ _ _ _ _ _ _ _ _ _ _ _ _ _ _ _ _ _ _ _ _ _ _ _ _ _ _ _ _ _ _ _ _ _ _ _ _ _ _ _ _ _ _ _ _ _ _ _ _ _ _ _ _ _ _ _ _ _ _ _ _ _ _ _ _ _ _ _ _ _ _ _ _ _ _ _ _ _ _ _ _ _ _ _ _ _ _ _ _ _ _ _ _ _ _ _ _ _ _ _ _ _ _ _ _ _ _ _ _ _ _ _ _ _ _ _ _ _ _ _ _ _ _ _ _ _ _ _ _ _ _ _ _ _ _ _ _ _ _ _ _ _ _ _ _ _ _ _ _ _ _ _ _ _ _ _ _ _ _ _ _ _ _ _ _ _ _ _ _ _ _ _ _ _ _ _ _ _ _ _ _ _ _ _ _ _ _ _ _ _ _ _ _ _ _

end Go.Proofs.Ytopeidmafalklaa


namespace Go.Proofs.Ytopeidmafalklaa
open Go.RowKit

theorem vc_cd {M n : Nat} {ms : List Int} {bs : List Bool} (hM1 : 1 ≤ M) (hM3 : M ≤ 3) (hn : n ≤ 5) (hbl : bs.length = n) (hk1 : 1 ≤ ms.length) (hk3 : ms.length ≤ 3) (hms : ∀ x ∈ ms, 1 ≤ x ∧ x < 2 ^ (M + 1)) : Cd M n ms bs ∧ validCoderB (M : Int) ms = true := by
  refine ⟨⟨hM1, hM3, hn, hbl, hk1, hk3, hms⟩, ?_⟩
  unfold validCoderB
  rw [inB_true.2 (by omega), decide_eq_true hk1, decide_eq_true (by omega), Bool.true_and, Bool.true_and, Bool.true_and, List.all_eq_true]
  intro x hx
  obtain ⟨h1, h2⟩ := hms x hx
  rw [Int.toNat_natCast]
  refine inB_true.2 ⟨h1, ?_⟩
  have e : (2 : Int) * 2 ^ M = 2 ^ (M + 1) := by rw [Int.pow_succ, Int.mul_comm]
  omega
theorem send_ok {M n : Nat} {ms : List Int} {bs : List Bool} (H : Cd M n ms bs) (hv : validCoderB (M : Int) ms = true) : sendBitsOk (M : Int) ms bs = true ∧ sendBitsL (M : Int) ms bs = snt M n ms bs := by
  have hl := H.len
  have hn := H.n5
  have h1 : sendBitsOk (M : Int) ms bs = true := by unfold sendBitsOk; rw [hv, decide_eq_true (by omega)]; rfl
  exact ⟨h1, so_yes h1 hl⟩
theorem soft_ok {M n : Nat} {ms : List Int} {bs : List Bool} (H : Cd M n ms bs) : softOkB (snt M n ms bs).length 1090519040 = true ∧ softOfL (snt M n ms bs) 1090519040 = soft8 M n ms bs := by
  have h24 : (snt M n ms bs).length ≤ 8 * 3 := by rw [snt_len]; exact Nat.mul_le_mul (by have := H.n5; have := H.m3; omega) H.k3
  have h1 : softOkB (snt M n ms bs).length 1090519040 = true := by
    unfold softOkB
    rw [decide_eq_true (by omega), Bool.true_and]
    decide +kernel
  refine ⟨h1, ?_⟩
  unfold softOfL
  rw [h1, if_pos rfl]
  rfl

theorem ways_8 {M n : Nat} {ms : List Int} {bs : List Bool} (H : Cd M n ms bs) (hv : validCoderB (M : Int) ms = true) {wk : Int} (h1 : 1 ≤ wk) (h8 : wk ≤ 8) : waysOk (M : Int) ms [soft8 M n ms bs, soft8 M n ms bs] wk = true ∧ waysL (M : Int) ms [soft8 M n ms bs, soft8 M n ms bs] wk = [bs, bs] := by
  obtain ⟨y1, y2, -⟩ := best_8 H hv
  have h : waysOk (M : Int) ms [soft8 M n ms bs, soft8 M n ms bs] wk = true := by
    unfold waysOk
    rw [hv, inB_true.2 ⟨h1, h8⟩]
    simp [y1]
  refine ⟨h, ?_⟩
  unfold waysL
  rw [h, if_pos rfl]
  simp [y2]
theorem inv_two {w w' : World} {v : Value} {bs : List Bool} {ys : List RowHB} {n : Nat} (hn : bs.length = n) (h : WaysInv w w' v [bs, bs] ys) : ∃ (g kv : Nat) (X Y : Option Addr) (kx ky : Nat), v = .slice (some ⟨g, 0, none⟩) 2 kv ∧ w'.ownsRow w.heap.size 41 1 (.slice (some ⟨g, 0, none⟩) 2 kv) 2 [.slice X n kx, .slice Y n ky] ∧ w'.ownsRow w.heap.size 4 1 (.slice X n kx) n (bs.map Value.bool) ∧ w'.ownsRow w.heap.size 4 1 (.slice Y n ky) n (bs.map Value.bool) ∧ Below w.heap.size w w' := by
  obtain ⟨h1, h2, -, h4, h5⟩ := h
  have hl : ys.length = 2 := by
    have := congrArg List.length h1
    unfold datB at this
    simpa using this
  obtain ⟨a, b, rfl⟩ := (match ys, hl with | [a, b], _ => ⟨a, b, rfl⟩ : ∃ a b, ys = [a, b])
  unfold datB at h1
  simp only [List.map_cons, List.map_nil, List.cons.injEq, and_true] at h1
  obtain ⟨ha, hb⟩ := h1
  have k1 := h2 a (by simp)
  have k2 := h2 b (by simp)
  obtain ⟨a1, a2, a3⟩ := a
  obtain ⟨b1, b2, b3⟩ := b
  dsimp only at ha hb
  have h4 : w'.ownsRow w.heap.size 41 1 v 2 [.slice a1 a3.length a2, .slice b1 b3.length b2] := h4
  have k1 : w'.ownsRow w.heap.size 4 1 (.slice a1 a3.length a2) a3.length (a3.map Value.bool) := k1
  have k2 : w'.ownsRow w.heap.size 4 1 (.slice b1 b3.length b2) b3.length (b3.map Value.bool) := k2
  rw [ha, hb, hn] at h4
  rw [ha, hn] at k1
  rw [hb, hn] at k2
  obtain ⟨A, cap, rfl⟩ := own1_opn h4
  obtain ⟨g, cap', hv2, -, -⟩ := h4.form (by omega)
  cases hv2
  exact ⟨g, cap, a1, b1, a2, b2, rfl, h4, k1, k2, h5⟩

set_option maxRecDepth 100000 in
set_option maxHeartbeats 40000000 in
theorem law_FnWays (w : World) (A1 : Option Addr) (n1 cap1 : Nat) (c : List Int) (A2 : Option Addr) (n2 cap2 : Nat) (m : List Int) (hl1 : c.length = n1) (hm1 : n1 ≤ maxLen) (hb1 : ∀ x ∈ c, 0 ≤ x ∧ x ≤ 255) (hx1 : Sl w w.heap.size A1 (c.map (Value.int .u8)))
    (hl2 : m.length = n2) (hm2 : n2 ≤ maxLen) (hb2 : ∀ x ∈ m, 0 ≤ x ∧ x ≤ 255) (hx2 : Sl w w.heap.size A2 (m.map (Value.int .u8))) :
    Calls Try.prog 4 #[.slice A1 n1 cap1, .slice A2 n2 cap2] w fun e w' => e = .returned (.bool true) ∧ Below w.heap.size w w' := by
  by_cases hlong : 1048576 < n1 ∨ 1048576 < n2
  · go_enter Try.func4, Try.ntmps4
    go_wp2_with (go_at_call 15; refine (b10Long_c _ _ _ _ _ _ _ true (by simp; omega) hm1 hm2).mono ?_; rintro e w' ⟨rfl, rfl⟩)
    go_ret
    exact ⟨rfl, Below.refl _ _⟩
  have hn1 : n1 ≤ 1048576 := by omega
  have hn2 : n2 ≤ 1048576 := by omega
  have hfl : false = (decide (1048576 < n1) || decide (1048576 < n2)) := by rw [decide_eq_false (by omega), decide_eq_false (by omega)]; rfl
  have HFL := Lib.hid hfl
  have HX2 := Lib.hid hx2
  have HBB1 := Lib.hid hb1
  have HBB2 := Lib.hid hb2
  have HX1 := Lib.hid hx1
  clear hfl hlong hx1 hx2 hb1 hb2
  go_enter Try.func4, Try.ntmps4
  go_wp2_with (first
    | (go_at_call 15; refine (b10Long_c _ _ _ _ _ _ _ false HFL.out hm1 hm2).mono ?_; rintro e w' ⟨rfl, rfl⟩))
  refine (B10Coder_c w A1 n1 cap1 c hl1 hn1 HBB1.out HX1.out).mono ?_
  rintro e w1 ⟨M, v, ms, rfl, hM1, hM3, hk1, hk3, hms, hov, hb1⟩
  obtain ⟨V, kv, rfl, hpv⟩ := hov.opn
  obtain ⟨k, hk⟩ : ∃ k, ms.length = k := ⟨_, rfl⟩
  rw [hk] at hpv hk1 hk3 ⊢
  have HMS := Lib.hid hms
  have HK := Lib.hid hk
  have HPV := Lib.hid hpv
  have HB1 := Lib.hid hb1
  have hz1 := hb1.size
  clear hms hpv hb1 hov
  go_wp2_with fail
  obtain ⟨G, hG⟩ : ∃ G, w1.heap.size = G := ⟨_, rfl⟩
  rw [hG]
  obtain ⟨w2, ew2⟩ : ∃ q : World, q = w1.alloc (.cells #[.int .i64 (M : Int), .slice V k kv] 29) := ⟨_, rfl⟩
  rw [← ew2]
  have hal : Below w1.heap.size w1 w2 := by rw [ew2]; exact (Below.refl _ _).alloc (Nat.le_refl _) _
  have c0 : w2.cell? ⟨G, 0, none⟩ = some (.int .i64 (M : Int)) := by rw [ew2, ← hG]; (first | (simp; done) | (simp (disch := (first | (simp; done) | (simp; omega))) [World.cell?_alloc_at]; done) | (simp (disch := (first | (simp; done) | (simp; omega))) [World.cell?_alloc_past]; done) | (simp (disch := (first | (simp; done) | (simp; omega))) [World.cell?_alloc_at, World.cell?_alloc_past]; done) | (simp (disch := (first | (simp; done) | (simp; omega))) [World.frozen?_alloc_at]; done) | (simp (disch := (first | (simp; done) | (simp; omega))) [World.frozen?_alloc_past]; done) | (simp (disch := (first | (simp; done) | (simp; omega))) [World.frozen?_alloc_at, World.frozen?_alloc_past]; done))
  have c1 : w2.cell? ⟨G, 1, none⟩ = some (.slice V k kv) := by rw [ew2, ← hG]; (first | (simp; done) | (simp (disch := (first | (simp; done) | (simp; omega))) [World.cell?_alloc_at]; done) | (simp (disch := (first | (simp; done) | (simp; omega))) [World.cell?_alloc_past]; done) | (simp (disch := (first | (simp; done) | (simp; omega))) [World.cell?_alloc_at, World.cell?_alloc_past]; done) | (simp (disch := (first | (simp; done) | (simp; omega))) [World.frozen?_alloc_at]; done) | (simp (disch := (first | (simp; done) | (simp; omega))) [World.frozen?_alloc_past]; done) | (simp (disch := (first | (simp; done) | (simp; omega))) [World.frozen?_alloc_at, World.frozen?_alloc_past]; done))
  have hz2 : w2.heap.size = G + 1 := by rw [ew2]; simp [hG]
  have hG2 : G < w2.heap.size := by omega
  have hpv2 := own_below HPV.out hal (Nat.le_refl _)
  have HB2 := Lib.hid (HB1.out.trans (hal.mono hz1))
  have HST2 := Lib.hid (fun (W : World) (hW : Below w2.heap.size w2 W) => And.intro (sl_of_own (own_below hpv2 hW (Nat.le_refl _))) (And.intro ((hW.cell (p := ⟨G, 0, none⟩) hG2).trans c0) (And.intro ((hW.cell (p := ⟨G, 1, none⟩) hG2).trans c1) (HB2.out.trans (hW.mono HB2.out.size)))))
  obtain ⟨n, hnA⟩ : ∃ n : Nat, atB m 0 6 = (n : Int) := ⟨(atB m 0 6).toNat, by have := atB_bd m 0 6 (by decide); omega⟩
  have hn5 : n ≤ 5 := by have := atB_bd m 0 6 (by decide); omega
  have HAT := Lib.hid (b10At_c w2 w.heap.size A2 n2 cap2 m hl2 HBB2.out (HX2.out.below HB2.out) 0 6 (by decide) (by decide) (by decide) (by decide))
  have HNA := Lib.hid hnA
  clear ew2 hal hz1 hpv2 hnA HPV HB1
  refine HAT.out.mono ?_
  rintro e w' ⟨rfl, rfl⟩
  rw [HNA.out]
  go_wp2_with fail
  refine (B10Bools_c w2 A2 n2 cap2 m hl2 hn2 HBB2.out (HX2.out.below HB2.out |>.more HB2.out.size) n (by omega)).mono ?_
  rintro e w3 ⟨vb, bs, rfl, hbl, hob, hb3⟩
  obtain ⟨Vb, kb, rfl, hpb⟩ := hob.opn
  rw [hbl] at hpb ⊢
  obtain ⟨hcd, hvc⟩ := vc_cd hM1 hM3 hn5 hbl (by rw [HK.out]; exact hk1) (by rw [HK.out]; exact hk3) HMS.out
  have HCD := Lib.hid hcd
  have HVC := Lib.hid hvc
  have HST3 := Lib.hid (fun (W : World) (hW : Below w3.heap.size w3 W) => And.intro (HST2.out W (hb3.trans (hW.mono hb3.size))) (sl_of_own (own_below hpb hW (Nat.le_refl _))))
  obtain ⟨⟨s1, s2, s3, s4⟩, s5⟩ := HST3.out w3 (Below.refl _ _)
  have hG3 : G < w3.heap.size := by have := hb3.size; omega
  have HSB := Lib.hid (impl_SendBits_c w3 (M : Int) V k kv ms HK.out (by omega) s1 Vb n kb bs hbl (by omega) s5)
  clear hob hpb hb3 hcd hvc c0 c1 s1 s4 s5 HST2 HAT HB2
  go_wp2_with fail
  refine HSB.out.mono ?_
  rintro e w4 ⟨v4, rfl, ho4, hb4⟩
  obtain ⟨y1, y2⟩ := send_ok HCD.out HVC.out
  rw [y2] at ho4
  rw [y1]
  obtain ⟨V4, k4, rfl, hp4⟩ := ho4.opn
  obtain ⟨L, hL⟩ : ∃ L, (n + M) * k = L := ⟨_, rfl⟩
  have hsl : (snt M n ms bs).length = L := by rw [snt_len, HK.out, hL]
  have hL24 : L ≤ 24 := by rw [← hL]; exact Nat.le_trans (Nat.mul_le_mul (show n + M ≤ 8 by omega) hk3) (by decide)
  rw [hsl] at hp4 ⊢
  have HSL := Lib.hid hsl
  have HL := Lib.hid hL
  have HST4 := Lib.hid (fun (W : World) (hW : Below w4.heap.size w4 W) => And.intro (HST3.out W (hb4.trans (hW.mono hb4.size))) (sl_of_own (own_below hp4 hW (Nat.le_refl _))))
  have hG4 : G < w4.heap.size := by have := hb4.size; omega
  obtain ⟨-, s6⟩ := HST4.out w4 (Below.refl _ _)
  have HSO := Lib.hid (impl_SoftOf_c w4 V4 L k4 (snt M n ms bs) hsl (by omega) s6 1090519040)
  clear ho4 hp4 hb4 y1 y2 hsl s2 s3 s6 HST3 HSB hL
  go_wp2_with fail
  refine HSO.out.mono ?_
  rintro e w5 ⟨v5, rfl, ho5, hb5⟩
  obtain ⟨y1, y2⟩ := soft_ok HCD.out
  rw [HSL.out] at y1
  rw [y2] at ho5
  rw [y1]
  obtain ⟨V5, k5, rfl, hp5⟩ := ho5.opn
  have hsl5 : (soft8 M n ms bs).length = L := by rw [soft8_len, HK.out, HL.out]
  rw [hsl5] at hp5 ⊢
  have HSL5 := Lib.hid hsl5
  have HST5 := Lib.hid (fun (W : World) (hW : Below w5.heap.size w5 W) => And.intro (HST4.out W (hb5.trans (hW.mono hb5.size))) (own_below hp5 hW (Nat.le_refl _)))
  have hG5 : G < w5.heap.size := by have := hb5.size; omega
  obtain ⟨⟨⟨⟨s1, s2, s3, s4⟩, s5⟩, s6⟩, s7⟩ := HST5.out w5 (Below.refl _ _)
  have HHA := Lib.hid (impl_HardOf_c w5 V5 L k5 (soft8 M n ms bs) hsl5 (by omega) (sl_of_own s7))
  clear ho5 hp5 hb5 y1 y2 hsl5 s1 s2 s3 s4 s5 s6 s7 HST4 HSO
  go_wp2_with fail
  refine HHA.out.mono ?_
  rintro e w6 ⟨v6, rfl, ho6, hb6⟩
  obtain ⟨y1, y2⟩ := hard_8 HCD.out HVC.out
  rw [y2] at ho6
  rw [y1]
  obtain ⟨V6, k6, rfl, hp6⟩ := ho6.opn
  rw [HSL.out] at hp6 ⊢
  have HSF := Lib.hid y1
  have HST6 := Lib.hid (fun (W : World) (hW : Below w6.heap.size w6 W) => And.intro (HST5.out W (hb6.trans (hW.mono hb6.size))) (sl_of_own (own_below hp6 hW (Nat.le_refl _))))
  have hG6 : G < w6.heap.size := by have := hb6.size; omega
  obtain ⟨⟨⟨⟨⟨s1, s2, s3, s4⟩, s5⟩, s6⟩, s7⟩, s8⟩ := HST6.out w6 (Below.refl _ _)
  have HBE := Lib.hid (impl_BestWay_c w6 (M : Int) V k kv ms HK.out (by omega) s1 V5 L k5 (soft8 M n ms bs) HSL5.out (by omega) (sl_of_own s7) (rowA_of s7))
  clear ho6 hp6 hb6 y1 y2 s1 s4 s5 s6 s7 s8 HST5 HHA
  go_wp2_with fail
  refine HBE.out.mono ?_
  rintro e w7 ⟨v7, g7, rfl, hg7, ho7, hb7⟩
  obtain ⟨y1, y2, y3⟩ := best_8 HCD.out HVC.out
  rw [y2] at ho7
  rw [y1]
  rw [← hg7, HK.out, HL.out] at y3
  obtain ⟨V7, k7, rfl, hp7⟩ := ho7.opn
  rw [hbl] at hp7 ⊢
  have HG7 := Lib.hid y3
  have HBO := Lib.hid y1
  have HBL := Lib.hid y2
  have HST7 := Lib.hid (fun (W : World) (hW : Below w7.heap.size w7 W) => And.intro (HST6.out W (hb7.trans (hW.mono hb7.size))) (sl_of_own (own_below hp7 hW (Nat.le_refl _))))
  have hG7 : G < w7.heap.size := by have := hb7.size; omega
  obtain ⟨⟨⟨⟨⟨⟨s1, t2, t3, s4⟩, s5⟩, s6⟩, s7⟩, s8⟩, s9⟩ := HST7.out w7 (Below.refl _ _)
  have HAW := Lib.hid (impl_AllWays_r w7 (M : Int) V k kv ms HK.out (by omega) s1 V5 L k5 (soft8 M n ms bs) HSL5.out (by omega) (sl_of_own s7) (rowA_of s7))
  clear ho7 hp7 hb7 y1 y2 y3 hg7 s1 s4 s5 s6 s7 s8 s9 s2 s3 HST6 HBE
  go_wp2_with fail
  refine HAW.out.mono ?_
  rintro e w8 ⟨v8, rfl, ho8, hb8⟩
  obtain ⟨y1, y2, y3⟩ := all_8 HCD.out HVC.out
  rw [y1]
  obtain ⟨V8, k8, rfl, hp8⟩ := ho8.opn
  obtain ⟨aR, haR⟩ : ∃ aR, allR (M : Int) ms (soft8 M n ms bs) = aR := ⟨_, rfl⟩
  rw [haR] at hp8 y2 y3 ⊢
  rw [y2] at hp8 ⊢
  have HY2 := Lib.hid y2
  have HY3 := Lib.hid y3
  have HST8 := Lib.hid (fun (W : World) (hW : Below w8.heap.size w8 W) => And.intro (HST7.out W (hb8.trans (hW.mono hb8.size))) (sl_of_own (own_below hp8 hW (Nat.le_refl _))))
  have hG8 : G < w8.heap.size := by have := hb8.size; omega
  clear ho8 hp8 hb8 y1 y2 y3 haR t2 t3 HST7 HAW
  obtain ⟨a8, ha8⟩ : ∃ a : Int, atB m 1 8 = a := ⟨_, rfl⟩
  have ha80 : 0 ≤ a8 := by have := atB_bd m 1 8 (by decide); omega
  have ha88 : a8 < 8 := by have := atB_bd m 1 8 (by decide); omega
  obtain ⟨lit, hlit⟩ : ∃ o : Go.Obj, o = .cells #[.slice V5 L k5, .slice V5 L k5] 25 := ⟨_, rfl⟩
  have hbw : Below w8.heap.size w8 (w8.drew.alloc lit) := (below_drewN (Below.refl w8.heap.size w8) 1).alloc (Nat.le_refl _) _
  obtain ⟨⟨⟨⟨⟨⟨⟨-, t2, t3, s4⟩, -⟩, -⟩, s7⟩, -⟩, -⟩, -⟩ := HST8.out w8 (Below.refl _ _)
  obtain ⟨⟨⟨⟨⟨⟨⟨r1, r2, r3, r4⟩, -⟩, -⟩, r7⟩, -⟩, -⟩, -⟩ := HST8.out _ hbw
  have hro : (w8.drew.alloc lit).ownsRow w8.heap.size 25 1 (.slice (some ⟨w8.heap.size, 0, none⟩) 2 2) 2 [.slice V5 L k5, .slice V5 L k5] := by
    rw [hlit]
    exact World.ownsRow_lit (base := w8.heap.size) (e := 25) (size := 1) w8.drew #[.slice V5 L k5, .slice V5 L k5] 2 (Nat.le_refl _) (by decide) rfl
  have HA1 := Lib.hid (b10At_c w8.drew w.heap.size A2 n2 cap2 m hl2 HBB2.out (HX2.out.below (below_drewN s4 1)) 1 8 (by decide) (by decide) (by decide) (by decide))
  have HA2 := Lib.hid (b10At_c (w8.drew.alloc lit) w.heap.size A2 n2 cap2 m hl2 HBB2.out (HX2.out.below r4) 1 8 (by decide) (by decide) (by decide) (by decide))
  have hrows : ∀ r ∈ [((V5, k5, soft8 M n ms bs) : RowHF), (V5, k5, soft8 M n ms bs)], r = (V5, k5, soft8 M n ms bs) := by
    intro r hr
    simp only [List.mem_cons, List.not_mem_nil, or_false, or_self] at hr
    exact hr
  have hws := impl_WaysShared_c (w8.drew.alloc lit) (M : Int) V k kv ms HK.out (by omega) r1 (some ⟨w8.heap.size, 0, none⟩) 2 2 [(V5, k5, soft8 M n ms bs), (V5, k5, soft8 M n ms bs)] rfl (by decide) (fun r hr => by rw [hrows r hr, HSL5.out]; omega)
    ⟨by
      have h := sl_of_own hro
      show Sl _ _ _ [.slice V5 (soft8 M n ms bs).length k5, .slice V5 (soft8 M n ms bs).length k5]
      rw [HSL5.out]
      exact h, fun r hr => by rw [hrows r hr]; exact sl_of_own r7⟩ (fun r hr => by rw [hrows r hr, HSL5.out]; exact rowA_of r7) (1 + a8)
  have HWS := Lib.hid hws
  have HA8 := Lib.hid ha8
  have hw1 : IntKind.i64.wrap (1 + a8) = 1 + a8 := IntWalk.i64_in _ (by omega)
  rw [ha8] at HA1 HA2
  clear hws hrows hro hbw r1 r4 r7 s4 s7 ha8
  go_wp2_with fail
  go_region_with (first
    | (go_at_call 17; refine HA1.out.mono ?_; rintro e w' ⟨rfl, rfl⟩)
    | (rw [← hlit]; go_at_call 17; refine HA2.out.mono ?_; rintro e w' ⟨rfl, rfl⟩)
    | (rw [← hlit]; go_at_call 23; refine HWS.out.mono ?_; rintro e w9 ⟨v9, ys9, rfl, hi9⟩))
  all_goals
    have hi9 := hi9
    obtain ⟨y1, y2⟩ := ways_8 HCD.out HVC.out (show 1 ≤ 1 + a8 by omega) (show 1 + a8 ≤ 8 by omega)
    have hi9 : WaysInv (w8.drew.alloc lit) w9 v9 (waysL (M : Int) ms [soft8 M n ms bs, soft8 M n ms bs] (1 + a8)) ys9 := hi9
    rw [y2] at hi9
    obtain ⟨g9, k9, X9, Y9, kx9, ky9, rfl, p9, px9, py9, b9⟩ := inv_two hbl hi9
    have hbw : Below w8.heap.size w8 w9 := ((below_drewN (Below.refl w8.heap.size w8) 1).alloc (Nat.le_refl _) lit).trans (b9.mono (by rw [World.size_alloc]; exact Nat.le_succ _))
    have HSTW : Hid (∀ X, Below w9.heap.size w9 X → WF w M n k L G g9 V Vb V4 V5 V6 V7 V8 X9 Y9 kv kb k4 k5 k6 k7 k8 kx9 ky9 ms bs aR X) := Lib.hid (fun X hX => by
      obtain ⟨⟨⟨⟨⟨⟨⟨a1, a2, a3, a4⟩, a5⟩, a6⟩, a7⟩, a8⟩, a9⟩, a10⟩ := HST8.out X (hbw.trans (hX.mono hbw.size))
      have p := sl_of_own (own_below p9 hX (Nat.le_refl _))
      rcases p with p | ⟨b, off, e, -, p⟩
      · cases p
      · cases e
        have s0 := p 0 _ rfl
        have s1 := p 1 _ rfl
        exact ⟨a1, a2, a3, a4, a5, a6, sl_of_own a7, a8, a9, a10, s0, s1, sl_of_own (own_below px9 hX (Nat.le_refl _)), sl_of_own (own_below py9 hX (Nat.le_refl _))⟩)
    have hG9 : G < w9.heap.size := Nat.lt_of_lt_of_le hG8 hbw.size
    go_simp
    rw [show waysOk (M : Int) ms (datF [((V5, k5, soft8 M n ms bs) : RowHF), (V5, k5, soft8 M n ms bs)]) (1 + a8) = true from y1]
    refine (‹∀ (a : Act) (w : World), Code.wp Try.prog _ _ a w → _› _ _ ?_ : _)
    exact tailW w w9 A1 n1 cap1 c hl1 hn1 HBB1 HX1 M n k L G g9 k9 V Vb V4 V5 V6 V7 V8 X9 Y9 kv kb k4 k5 k6 k7 k8 kx9 ky9 g7 ms bs aR HCD HVC HK HL hM1 hM3 hk1 hk3 hn5 hL24 hbl HSL HSL5 HSF HG7 HY2 HY3 hG9 HSTW _ _ _ _ _ _ _ _ _ _ _ _ _ _ _ _ _ _ _ _ _ _ _ _ _ _ _ _ _ _ _ _ _ _ _ _ _ _ _ _ _ _ _ _ _ _ _ _ _ _ _ _ _ _ _ _ _ _ _ _ _ _ _ _ _ _ _ _ _ _ _ _ _ _ _ _ _ _ _ _ _ _ _ _ _ _ _ _ _ _ _ _ _ _ _ _ _ _ _ _ _ _ _ _ _ _ _ _ _ _ _ _ _ _ _ _ _ _ _ _ _ _ _ _ _ _ _ _ _ _ _ _ _ _ _ _ _ _ _ _ _ _ _ _ _ _ _ _ _ _ _ _ _ _ _ _ _ _ _ _ _ _ _ _ _ _ _ _ _ _ _ _ _ _ _ _ _ _ _ _ _ _ _ _ _ _ _ _ _ _ _ _ _ _ _ _ _ _ _ _ _ _ _ _ _ _ _ _ _ _ _ _ _ _ _ _ _ _ _ _ _ _ _ _ _ _ _ _ _ _ _ _ _ _ _ _ _ _ _ _ _ _ _ _ _ _ _ _ _ _ _ _ _ _ _ _ _ _ _ _ _ _ _ _ _ _ _ _ _ _ _ _ _ _ _ _ _ _ _ _ _ _ _ _ _ _ _ _ _ _ _ _ _ _ _ _ _ _ _

end Go.Proofs.Ytopeidmafalklaa
