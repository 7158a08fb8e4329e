/-
  Contracts: logarithms of sums that may not be there: joined and added to, both programs, up to the bits of a NaN.
  Conditions: none.
-/
import Derived.Test.YtopeidmafalklaaGX
namespace Go.Proofs.Ytopeidmafalklaa
open Go.RowKit

theorem size_allocY (w : World) (o : Go.Obj) : (w.alloc o).heap.size = w.heap.size + 1 := by simp


set_option maxRecDepth 100000 in
set_option maxHeartbeats 1000000 in
theorem impl_plus_c (w : World) (h : Bool) (x y : Nat) : Calls Try.prog 48 #[.agg #[.bool h, .float .f32 x], .float .f32 y] w fun e w' => ∃ k z, e = .returned (.agg #[.bool k, .float .f32 z]) ∧ stO k z = plusS (stO h x) (fl .f32 y) ∧ Below w.heap.size w w' := by
  cases h
  · go_enter Try.func48, Try.ntmps48
    go_wp2
    refine bodyPost_ret (v := .agg #[.bool false, .float .f32 x]) (by unfold results; rw [Try.results48]; go_simp) rfl ?_
    exact ⟨_, _, rfl, rfl, ((Below.refl _ _).alloc (Nat.le_refl _) _).alloc (by simp) _⟩
  · go_enter Try.func48, Try.ntmps48
    go_wp2
    refine bodyPost_ret (v := .agg #[.bool true, .float .f32 (fres .add .f32 x y w.tape w.drawn)]) (by unfold results; rw [Try.results48]; go_simp) rfl ?_
    refine ⟨_, _, rfl, ?_, ?_⟩
    · show some (fl .f32 _) = some _
      rw [fl_fres]
    · have b2 : ∀ o1 o2 : Go.Obj, Below w.heap.size w ((w.alloc o1).alloc o2) := fun o1 o2 => ((Below.refl _ _).alloc (Nat.le_refl _) o1).alloc (by simp) o2
      exact Below.setCell (p := ⟨w.heap.size + 1, 1, none⟩) (Below.setCell (p := ⟨w.heap.size + 1, 0, none⟩) (below_drewN (b2 _ _) _) (by simp) _) (by simp) _


set_option maxRecDepth 100000 in
set_option maxHeartbeats 1000000 in
theorem impl_join_c (w : World) (h1 h2 : Bool) (x y : Nat) : Calls Try.prog 49 #[.agg #[.bool h1, .float .f32 x], .agg #[.bool h2, .float .f32 y]] w fun e w' => ∃ k z, e = .returned (.agg #[.bool k, .float .f32 z]) ∧ stO k z = joinS (stO h1 x) (stO h2 y) ∧ Below w.heap.size w w' := by
  have b3 : ∀ o1 o2 o3 : Go.Obj, Below w.heap.size w (((w.alloc o1).alloc o2).alloc o3) := fun o1 o2 o3 => (((Below.refl _ _).alloc (Nat.le_refl _) o1).alloc (by simp) o2).alloc (by simp; omega) o3
  cases h1 <;> cases h2
  · go_enter Try.func49, Try.ntmps49
    go_wp2
    refine bodyPost_ret (v := .agg #[.bool false, .float .f32 y]) (by unfold results; rw [Try.results49]; go_simp) rfl ?_
    exact ⟨_, _, rfl, rfl, b3 _ _ _⟩
  · go_enter Try.func49, Try.ntmps49
    go_wp2
    refine bodyPost_ret (v := .agg #[.bool true, .float .f32 y]) (by unfold results; rw [Try.results49]; go_simp) rfl ?_
    exact ⟨_, _, rfl, rfl, b3 _ _ _⟩
  · go_enter Try.func49, Try.ntmps49
    go_wp2
    refine bodyPost_ret (v := .agg #[.bool true, .float .f32 x]) (by unfold results; rw [Try.results49]; go_simp) rfl ?_
    exact ⟨_, _, rfl, rfl, b3 _ _ _⟩
  · have hmx := fun (W : World) (ts : Array TypeId) (t : TypeId) => run_mxF (P := Try.prog) W ts t x y
    have hmn := fun (W : World) (ts : Array TypeId) (t : TypeId) => run_mnF (P := Try.prog) W ts t x y
    obtain ⟨w1, e1⟩ : ∃ q : World, q = ((w.alloc (.cells #[.bool true, .float .f32 x] 87)).alloc (.cells #[.bool true, .float .f32 y] 87)).alloc (.cells #[.bool false, .float .f32 0] 87) := ⟨_, rfl⟩
    have bb : Below w.heap.size w w1 := by rw [e1]; exact b3 _ _ _
    have o1 : Obj w1 w.heap.size 87 #[.bool true, .float .f32 x] := by rw [e1]; exact ((Obj.new _ _ _).alloc _).alloc _
    have o2 : Obj w1 (w.heap.size + 1) 87 #[.bool true, .float .f32 y] := by
      have h := Obj.new (w.alloc (.cells #[.bool true, .float .f32 x] 87)) 87 #[.bool true, .float .f32 y]
      simp only [size_allocY] at h
      rw [e1]; exact h.alloc _
    have o3 : Obj w1 (w.heap.size + 1 + 1) 87 #[.bool false, .float .f32 0] := by
      have h := Obj.new ((w.alloc (.cells #[.bool true, .float .f32 x] 87)).alloc (.cells #[.bool true, .float .f32 y] 87)) 87 #[.bool false, .float .f32 0]
      simp only [size_allocY] at h
      rw [e1]; exact h
    have c1 := (o1.cell 1).trans (show #[Value.bool true, .float .f32 x][1]? = some (.float .f32 x) from rfl)
    have c2 := (o2.cell 1).trans (show #[Value.bool true, .float .f32 y][1]? = some (.float .f32 y) from rfl)
    have t0 := (o3.cell 0).trans (show #[Value.bool false, .float .f32 0][0]? = some (.bool false) from rfl)
    have t1 := (o3.cell 1).trans (show #[Value.bool false, .float .f32 0][1]? = some (.float .f32 0) from rfl)
    have f1 := o3.frozen 0
    have f2 := o3.frozen 1
    have HO := Lib.hid o3
    clear o1 o2 o3
    go_enter Try.func49, Try.ntmps49
    go_wp2
    rw [← e1]
    clear e1
    refine wp_region_rel_lit (fun _ _ _ => False) (by kernel_rfl) (by kernel_rfl) ?_
    iterate 12 (refine wpRel_step (fun K hK => ?_); go_simp; (try intro n1); refine hK _ ?_; clear hK K)
    refine wpRel_nil ?_
    intro nq
    rename_i m1
    obtain ⟨HM, hgap⟩ := mm_join x y w1.tape (w1.drewN m1).drawn w1.tape (w1.drewN n1).drawn
    obtain ⟨H, eH⟩ : ∃ H, mxF x y w1.tape (w1.drewN m1).drawn = H := ⟨_, rfl⟩
    obtain ⟨L, eL⟩ : ∃ L, mnF x y w1.tape (w1.drewN n1).drawn = L := ⟨_, rfl⟩
    rw [eH, eL] at HM hgap ⊢
    have HMJ := Lib.hid HM
    have HGP := Lib.hid hgap
    clear HM hgap eH eL hmx hmn
    go_wp2_with (first
      | (go_at_call 79; refine (impl_ExpNumber_c _ _ (gap_fres HGP.out _ _)).mono ?_; rintro e w' ⟨v1, rfl, hv1, q1, rfl⟩; have HV1 := Lib.hid hv1; clear hv1)
      | (go_at_call 78; refine (impl_LogNumber_c _ _ (sum_fres (gap_fres HGP.out _ _) HV1.out _ _)).mono ?_; rintro e w' ⟨v2, rfl, hv2, q2, rfl⟩; have HV2 := Lib.hid hv2; clear hv2))
    refine bodyPost_ret (v := .agg #[.bool true, .float .f32 (fres .add .f32 H v2 w1.tape (w1.drewN (nq + fdr .sub .f32 L H + q1 + fdr .add .f32 1065353216 v1 + q2)).drawn)]) (by unfold results; rw [Try.results49]; go_simp) rfl ?_
    refine ⟨_, _, rfl, ?_, ?_⟩
    · show some (fl .f32 _) = some (joinO _ _)
      rw [fl_fres, HV2.out, fl_fres, HV1.out, fl_fres, one32, ← HMJ.out]
      rfl
    · exact Below.setCell (p := ⟨w.heap.size + 1 + 1, 1, none⟩) (Below.setCell (p := ⟨w.heap.size + 1 + 1, 0, none⟩) (below_drewN bb _) (by simp; omega) _) (by simp; omega) _


theorem gt_join {x y : Nat} (h : (FloatKind.f32.format.order y x == some Ordering.gt) = true) : joinV (fl .f32 y) (fl .f32 x) = joinO (fl .f32 x) (fl .f32 y) ∧ FloatKind.f32.format.order x y ≠ some .gt := by
  have hg : gtF (fl .f32 y) (fl .f32 x) = (FloatKind.f32.format.order y x == some .gt) := by rw [order_fl]; rfl
  unfold joinO
  rw [hg, h, if_pos rfl]
  have e : FloatKind.f32.format.order y x = some .gt := by simpa using h
  have hs := ord_swap (x := y) (y := x)
  rw [e] at hs
  rw [hs]
  exact ⟨rfl, by decide⟩
theorem le_join {x y : Nat} (h : (FloatKind.f32.format.order y x == some Ordering.gt) = false) : joinV (fl .f32 x) (fl .f32 y) = joinO (fl .f32 x) (fl .f32 y) ∧ FloatKind.f32.format.order y x ≠ some .gt := by
  have hg : gtF (fl .f32 y) (fl .f32 x) = (FloatKind.f32.format.order y x == some .gt) := by rw [order_fl]; rfl
  unfold joinO
  rw [hg, h, if_neg (by decide)]
  exact ⟨rfl, by simpa using h⟩
set_option maxRecDepth 100000 in
set_option maxHeartbeats 1000000 in
theorem spec_l07Join_c (w : World) (h : Bool) (x y : Nat) : Calls Try.prog 38 #[.agg #[.bool h, .float .f32 x], .float .f32 y] w fun e w' => ∃ z, e = .returned (.agg #[.bool true, .float .f32 z]) ∧ stO true z = joinS (stO h x) (some (fl .f32 y)) ∧ Below w.heap.size w w' := by
  have b2 : ∀ o1 o2 : Go.Obj, Below w.heap.size w ((w.alloc o1).alloc o2) := fun o1 o2 => ((Below.refl _ _).alloc (Nat.le_refl _) o1).alloc (by simp) o2
  cases h
  · go_enter Try.func38, Try.ntmps38
    go_wp2
    refine bodyPost_ret (v := .agg #[.bool true, .float .f32 y]) (by unfold results; rw [Try.results38]; go_simp) rfl ?_
    exact ⟨_, rfl, rfl, b2 _ _⟩
  · obtain ⟨w1, e1⟩ : ∃ q : World, q = (w.alloc (.cells #[.bool true, .float .f32 x] 71)).alloc (.cells #[.bool false, .float .f32 0] 71) := ⟨_, rfl⟩
    have bb : Below w.heap.size w w1 := by rw [e1]; exact b2 _ _
    have o1 : Obj w1 w.heap.size 71 #[.bool true, .float .f32 x] := by rw [e1]; exact (Obj.new _ _ _).alloc _
    have o2 : Obj w1 (w.heap.size + 1) 71 #[.bool false, .float .f32 0] := by
      have h := Obj.new (w.alloc (.cells #[.bool true, .float .f32 x] 71)) 71 #[.bool false, .float .f32 0]
      simp only [size_allocY] at h
      rw [e1]; exact h
    have c0 := (o1.cell 0).trans (show #[Value.bool true, .float .f32 x][0]? = some (.bool true) from rfl)
    have c1 := (o1.cell 1).trans (show #[Value.bool true, .float .f32 x][1]? = some (.float .f32 x) from rfl)
    have t0 := (o2.cell 0).trans (show #[Value.bool false, .float .f32 0][0]? = some (.bool false) from rfl)
    have t1 := (o2.cell 1).trans (show #[Value.bool false, .float .f32 0][1]? = some (.float .f32 0) from rfl)
    have f1 := o2.frozen 0
    have f2 := o2.frozen 1
    clear o1 o2
    cases hgt : (FloatKind.f32.format.order y x == some Ordering.gt)
    · obtain ⟨HM, hgap⟩ := le_join hgt
      have HMJ := Lib.hid HM
      have HGP := Lib.hid hgap
      clear HM hgap
      go_enter Try.func38, Try.ntmps38
      go_wp2_with (first
        | (rw [← e1]; clear e1)
        | (go_at_call 74; refine (spec_l01Exp_c _ _ (gap_fres HGP.out _ _)).mono ?_; rintro e w' ⟨v1, rfl, hv1, q1, rfl⟩; have HV1 := Lib.hid hv1; clear hv1)
        | (go_at_call 73; refine (spec_l01Log_c _ _ (sum_fres (gap_fres HGP.out _ _) HV1.out _ _)).mono ?_; rintro e w' ⟨v2, rfl, hv2, q2, rfl⟩; have HV2 := Lib.hid hv2; clear hv2))
      refine bodyPost_ret (v := .agg #[.bool true, .float .f32 (fres .add .f32 x v2 w1.tape (w1.drewN (fdr .sub .f32 y x + q1 + fdr .add .f32 1065353216 v1 + q2)).drawn)]) (by unfold results; rw [Try.results38]; go_simp) rfl ?_
      refine ⟨_, rfl, ?_, ?_⟩
      · show some (fl .f32 _) = some (joinO _ _)
        rw [fl_fres, HV2.out, fl_fres, HV1.out, fl_fres, one32, ← HMJ.out]
        rfl
      · exact Below.setCell (p := ⟨w.heap.size + 1, 1, none⟩) (Below.setCell (p := ⟨w.heap.size + 1, 0, none⟩) (below_drewN bb _) (by simp) _) (by simp) _
    · obtain ⟨HM, hgap⟩ := gt_join hgt
      have HMJ := Lib.hid HM
      have HGP := Lib.hid hgap
      clear HM hgap
      go_enter Try.func38, Try.ntmps38
      go_wp2_with (first
        | (rw [← e1]; clear e1)
        | (go_at_call 74; refine (spec_l01Exp_c _ _ (gap_fres HGP.out _ _)).mono ?_; rintro e w' ⟨v1, rfl, hv1, q1, rfl⟩; have HV1 := Lib.hid hv1; clear hv1)
        | (go_at_call 73; refine (spec_l01Log_c _ _ (sum_fres (gap_fres HGP.out _ _) HV1.out _ _)).mono ?_; rintro e w' ⟨v2, rfl, hv2, q2, rfl⟩; have HV2 := Lib.hid hv2; clear hv2))
      refine bodyPost_ret (v := .agg #[.bool true, .float .f32 (fres .add .f32 y v2 w1.tape (w1.drewN (fdr .sub .f32 x y + q1 + fdr .add .f32 1065353216 v1 + q2)).drawn)]) (by unfold results; rw [Try.results38]; go_simp) rfl ?_
      refine ⟨_, rfl, ?_, ?_⟩
      · show some (fl .f32 _) = some (joinO _ _)
        rw [fl_fres, HV2.out, fl_fres, HV1.out, fl_fres, one32, ← HMJ.out]
        rfl
      · exact Below.setCell (p := ⟨w.heap.size + 1, 1, none⟩) (Below.setCell (p := ⟨w.heap.size + 1, 0, none⟩) (below_drewN bb _) (by simp) _) (by simp) _

end Go.Proofs.Ytopeidmafalklaa
