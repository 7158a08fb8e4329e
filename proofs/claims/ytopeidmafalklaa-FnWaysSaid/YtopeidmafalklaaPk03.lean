/-
  Contracts: logarithms of sums that may not be there: joined and added to, both programs, up to the bits of a NaN.
  Conditions: none.
  Contracts: soft numbers of bits, and bits of soft numbers.
  Conditions: lengths at most 1048576.
  Contracts: bounds of numbers and of lists of numbers.
  Conditions: slices are read in memory that is there.
  Contracts: coders, struct values of a number and a slice.
  Conditions: slices are read in memory that is there.
  Contracts: which coders are such.
  Conditions: slices are read in memory that is there.
  Plain: turning bits in place.
  Conditions: as each theorem says.
  Contracts: bits turned in place, and places of a power.
  Conditions: lengths are powers of two up to 32 where bits are turned.
  Contracts: bits sent by a coder.
  Conditions: lengths at most 1048576.
  Contracts: a gain with what is sent, of the program and of the reference; how many bits a way has.
  Conditions: lengths at most 1048576.
-/
import Derived.Test.YtopeidmafalklaaPk02
import Derived.Test.YtopeidmafalklaaPk01
import Derived.Handy
import Derived.Deep.QuietTactic
import Derived.BigQuiet
import Derived.StillTailTactics
import Derived.Deep.RegionHeld3

namespace Go.Proofs.Ytopeidmafalklaa
open Go.RowKit

theorem size_allocY (w : World) (o : Go.Obj) : (w.alloc o).heap.size = w.heap.size + 1 := by simp


set_option maxRecDepth 100000 in
set_option maxHeartbeats 1000000 in
theorem impl_plus_c (w : World) (h : Bool) (x y : Nat) : Calls Try.prog 48 #[.agg #[.bool h, .float .f32 x], .float .f32 y] w fun e w' => ∃ k z, e = .returned (.agg #[.bool k, .float .f32 z]) ∧ stO k z = plusS (stO h x) (fl .f32 y) ∧ Below w.heap.size w w' := by
  cases h
  · go_enter Try.func48, Try.ntmps48
    go_wp2
    refine bodyPost_ret (v := .agg #[.bool false, .float .f32 x]) (by unfold results; rw [Try.results48]; go_simp) rfl ?_
    exact ⟨_, _, rfl, rfl, ((Below.refl _ _).alloc (Nat.le_refl _) _).alloc (by simp) _⟩
  · go_enter Try.func48, Try.ntmps48
    go_wp2
    refine bodyPost_ret (v := .agg #[.bool true, .float .f32 (fres .add .f32 x y w.tape w.drawn)]) (by unfold results; rw [Try.results48]; go_simp) rfl ?_
    refine ⟨_, _, rfl, ?_, ?_⟩
    · show some (fl .f32 _) = some _
      rw [fl_fres]
    · have b2 : ∀ o1 o2 : Go.Obj, Below w.heap.size w ((w.alloc o1).alloc o2) := fun o1 o2 => ((Below.refl _ _).alloc (Nat.le_refl _) o1).alloc (by simp) o2
      exact Below.setCell (p := ⟨w.heap.size + 1, 1, none⟩) (Below.setCell (p := ⟨w.heap.size + 1, 0, none⟩) (below_drewN (b2 _ _) _) (by simp) _) (by simp) _


set_option maxRecDepth 100000 in
set_option maxHeartbeats 1000000 in
theorem impl_join_c (w : World) (h1 h2 : Bool) (x y : Nat) : Calls Try.prog 49 #[.agg #[.bool h1, .float .f32 x], .agg #[.bool h2, .float .f32 y]] w fun e w' => ∃ k z, e = .returned (.agg #[.bool k, .float .f32 z]) ∧ stO k z = joinS (stO h1 x) (stO h2 y) ∧ Below w.heap.size w w' := by
  have b3 : ∀ o1 o2 o3 : Go.Obj, Below w.heap.size w (((w.alloc o1).alloc o2).alloc o3) := fun o1 o2 o3 => (((Below.refl _ _).alloc (Nat.le_refl _) o1).alloc (by simp) o2).alloc (by simp; omega) o3
  cases h1 <;> cases h2
  · go_enter Try.func49, Try.ntmps49
    go_wp2
    refine bodyPost_ret (v := .agg #[.bool false, .float .f32 y]) (by unfold results; rw [Try.results49]; go_simp) rfl ?_
    exact ⟨_, _, rfl, rfl, b3 _ _ _⟩
  · go_enter Try.func49, Try.ntmps49
    go_wp2
    refine bodyPost_ret (v := .agg #[.bool true, .float .f32 y]) (by unfold results; rw [Try.results49]; go_simp) rfl ?_
    exact ⟨_, _, rfl, rfl, b3 _ _ _⟩
  · go_enter Try.func49, Try.ntmps49
    go_wp2
    refine bodyPost_ret (v := .agg #[.bool true, .float .f32 x]) (by unfold results; rw [Try.results49]; go_simp) rfl ?_
    exact ⟨_, _, rfl, rfl, b3 _ _ _⟩
  · have hmx := fun (W : World) (ts : Array TypeId) (t : TypeId) => run_mxF (P := Try.prog) W ts t x y
    have hmn := fun (W : World) (ts : Array TypeId) (t : TypeId) => run_mnF (P := Try.prog) W ts t x y
    obtain ⟨w1, e1⟩ : ∃ q : World, q = ((w.alloc (.cells #[.bool true, .float .f32 x] 87)).alloc (.cells #[.bool true, .float .f32 y] 87)).alloc (.cells #[.bool false, .float .f32 0] 87) := ⟨_, rfl⟩
    have bb : Below w.heap.size w w1 := by rw [e1]; exact b3 _ _ _
    have o1 : Obj w1 w.heap.size 87 #[.bool true, .float .f32 x] := by rw [e1]; exact ((Obj.new _ _ _).alloc _).alloc _
    have o2 : Obj w1 (w.heap.size + 1) 87 #[.bool true, .float .f32 y] := by
      have h := Obj.new (w.alloc (.cells #[.bool true, .float .f32 x] 87)) 87 #[.bool true, .float .f32 y]
      simp only [size_allocY] at h
      rw [e1]; exact h.alloc _
    have o3 : Obj w1 (w.heap.size + 1 + 1) 87 #[.bool false, .float .f32 0] := by
      have h := Obj.new ((w.alloc (.cells #[.bool true, .float .f32 x] 87)).alloc (.cells #[.bool true, .float .f32 y] 87)) 87 #[.bool false, .float .f32 0]
      simp only [size_allocY] at h
      rw [e1]; exact h
    have c1 := (o1.cell 1).trans (show #[Value.bool true, .float .f32 x][1]? = some (.float .f32 x) from rfl)
    have c2 := (o2.cell 1).trans (show #[Value.bool true, .float .f32 y][1]? = some (.float .f32 y) from rfl)
    have t0 := (o3.cell 0).trans (show #[Value.bool false, .float .f32 0][0]? = some (.bool false) from rfl)
    have t1 := (o3.cell 1).trans (show #[Value.bool false, .float .f32 0][1]? = some (.float .f32 0) from rfl)
    have f1 := o3.frozen 0
    have f2 := o3.frozen 1
    have HO := Lib.hid o3
    clear o1 o2 o3
    go_enter Try.func49, Try.ntmps49
    go_wp2
    rw [← e1]
    clear e1
    refine wp_region_rel_lit (fun _ _ _ => False) (by kernel_rfl) (by kernel_rfl) ?_
    iterate 12 (refine wpRel_step (fun K hK => ?_); go_simp; (try intro n1); refine hK _ ?_; clear hK K)
    refine wpRel_nil ?_
    intro nq
    rename_i m1
    obtain ⟨HM, hgap⟩ := mm_join x y w1.tape (w1.drewN m1).drawn w1.tape (w1.drewN n1).drawn
    obtain ⟨H, eH⟩ : ∃ H, mxF x y w1.tape (w1.drewN m1).drawn = H := ⟨_, rfl⟩
    obtain ⟨L, eL⟩ : ∃ L, mnF x y w1.tape (w1.drewN n1).drawn = L := ⟨_, rfl⟩
    rw [eH, eL] at HM hgap ⊢
    have HMJ := Lib.hid HM
    have HGP := Lib.hid hgap
    clear HM hgap eH eL hmx hmn
    go_wp2_with (first
      | (go_at_call 79; refine (impl_ExpNumber_c _ _ (gap_fres HGP.out _ _)).mono ?_; rintro e w' ⟨v1, rfl, hv1, q1, rfl⟩; have HV1 := Lib.hid hv1; clear hv1)
      | (go_at_call 78; refine (impl_LogNumber_c _ _ (sum_fres (gap_fres HGP.out _ _) HV1.out _ _)).mono ?_; rintro e w' ⟨v2, rfl, hv2, q2, rfl⟩; have HV2 := Lib.hid hv2; clear hv2))
    refine bodyPost_ret (v := .agg #[.bool true, .float .f32 (fres .add .f32 H v2 w1.tape (w1.drewN (nq + fdr .sub .f32 L H + q1 + fdr .add .f32 1065353216 v1 + q2)).drawn)]) (by unfold results; rw [Try.results49]; go_simp) rfl ?_
    refine ⟨_, _, rfl, ?_, ?_⟩
    · show some (fl .f32 _) = some (joinO _ _)
      rw [fl_fres, HV2.out, fl_fres, HV1.out, fl_fres, one32, ← HMJ.out]
      rfl
    · exact Below.setCell (p := ⟨w.heap.size + 1 + 1, 1, none⟩) (Below.setCell (p := ⟨w.heap.size + 1 + 1, 0, none⟩) (below_drewN bb _) (by simp; omega) _) (by simp; omega) _


theorem gt_join {x y : Nat} (h : (FloatKind.f32.format.order y x == some Ordering.gt) = true) : joinV (fl .f32 y) (fl .f32 x) = joinO (fl .f32 x) (fl .f32 y) ∧ FloatKind.f32.format.order x y ≠ some .gt := by
  have hg : gtF (fl .f32 y) (fl .f32 x) = (FloatKind.f32.format.order y x == some .gt) := by rw [order_fl]; rfl
  unfold joinO
  rw [hg, h, if_pos rfl]
  have e : FloatKind.f32.format.order y x = some .gt := by simpa using h
  have hs := ord_swap (x := y) (y := x)
  rw [e] at hs
  rw [hs]
  exact ⟨rfl, by decide⟩
theorem le_join {x y : Nat} (h : (FloatKind.f32.format.order y x == some Ordering.gt) = false) : joinV (fl .f32 x) (fl .f32 y) = joinO (fl .f32 x) (fl .f32 y) ∧ FloatKind.f32.format.order y x ≠ some .gt := by
  have hg : gtF (fl .f32 y) (fl .f32 x) = (FloatKind.f32.format.order y x == some .gt) := by rw [order_fl]; rfl
  unfold joinO
  rw [hg, h, if_neg (by decide)]
  exact ⟨rfl, by simpa using h⟩
set_option maxRecDepth 100000 in
set_option maxHeartbeats 1000000 in
theorem spec_l07Join_c (w : World) (h : Bool) (x y : Nat) : Calls Try.prog 38 #[.agg #[.bool h, .float .f32 x], .float .f32 y] w fun e w' => ∃ z, e = .returned (.agg #[.bool true, .float .f32 z]) ∧ stO true z = joinS (stO h x) (some (fl .f32 y)) ∧ Below w.heap.size w w' := by
  have b2 : ∀ o1 o2 : Go.Obj, Below w.heap.size w ((w.alloc o1).alloc o2) := fun o1 o2 => ((Below.refl _ _).alloc (Nat.le_refl _) o1).alloc (by simp) o2
  cases h
  · go_enter Try.func38, Try.ntmps38
    go_wp2
    refine bodyPost_ret (v := .agg #[.bool true, .float .f32 y]) (by unfold results; rw [Try.results38]; go_simp) rfl ?_
    exact ⟨_, rfl, rfl, b2 _ _⟩
  · obtain ⟨w1, e1⟩ : ∃ q : World, q = (w.alloc (.cells #[.bool true, .float .f32 x] 71)).alloc (.cells #[.bool false, .float .f32 0] 71) := ⟨_, rfl⟩
    have bb : Below w.heap.size w w1 := by rw [e1]; exact b2 _ _
    have o1 : Obj w1 w.heap.size 71 #[.bool true, .float .f32 x] := by rw [e1]; exact (Obj.new _ _ _).alloc _
    have o2 : Obj w1 (w.heap.size + 1) 71 #[.bool false, .float .f32 0] := by
      have h := Obj.new (w.alloc (.cells #[.bool true, .float .f32 x] 71)) 71 #[.bool false, .float .f32 0]
      simp only [size_allocY] at h
      rw [e1]; exact h
    have c0 := (o1.cell 0).trans (show #[Value.bool true, .float .f32 x][0]? = some (.bool true) from rfl)
    have c1 := (o1.cell 1).trans (show #[Value.bool true, .float .f32 x][1]? = some (.float .f32 x) from rfl)
    have t0 := (o2.cell 0).trans (show #[Value.bool false, .float .f32 0][0]? = some (.bool false) from rfl)
    have t1 := (o2.cell 1).trans (show #[Value.bool false, .float .f32 0][1]? = some (.float .f32 0) from rfl)
    have f1 := o2.frozen 0
    have f2 := o2.frozen 1
    clear o1 o2
    cases hgt : (FloatKind.f32.format.order y x == some Ordering.gt)
    · obtain ⟨HM, hgap⟩ := le_join hgt
      have HMJ := Lib.hid HM
      have HGP := Lib.hid hgap
      clear HM hgap
      go_enter Try.func38, Try.ntmps38
      go_wp2_with (first
        | (rw [← e1]; clear e1)
        | (go_at_call 74; refine (spec_l01Exp_c _ _ (gap_fres HGP.out _ _)).mono ?_; rintro e w' ⟨v1, rfl, hv1, q1, rfl⟩; have HV1 := Lib.hid hv1; clear hv1)
        | (go_at_call 73; refine (spec_l01Log_c _ _ (sum_fres (gap_fres HGP.out _ _) HV1.out _ _)).mono ?_; rintro e w' ⟨v2, rfl, hv2, q2, rfl⟩; have HV2 := Lib.hid hv2; clear hv2))
      refine bodyPost_ret (v := .agg #[.bool true, .float .f32 (fres .add .f32 x v2 w1.tape (w1.drewN (fdr .sub .f32 y x + q1 + fdr .add .f32 1065353216 v1 + q2)).drawn)]) (by unfold results; rw [Try.results38]; go_simp) rfl ?_
      refine ⟨_, rfl, ?_, ?_⟩
      · show some (fl .f32 _) = some (joinO _ _)
        rw [fl_fres, HV2.out, fl_fres, HV1.out, fl_fres, one32, ← HMJ.out]
        rfl
      · exact Below.setCell (p := ⟨w.heap.size + 1, 1, none⟩) (Below.setCell (p := ⟨w.heap.size + 1, 0, none⟩) (below_drewN bb _) (by simp) _) (by simp) _
    · obtain ⟨HM, hgap⟩ := gt_join hgt
      have HMJ := Lib.hid HM
      have HGP := Lib.hid hgap
      clear HM hgap
      go_enter Try.func38, Try.ntmps38
      go_wp2_with (first
        | (rw [← e1]; clear e1)
        | (go_at_call 74; refine (spec_l01Exp_c _ _ (gap_fres HGP.out _ _)).mono ?_; rintro e w' ⟨v1, rfl, hv1, q1, rfl⟩; have HV1 := Lib.hid hv1; clear hv1)
        | (go_at_call 73; refine (spec_l01Log_c _ _ (sum_fres (gap_fres HGP.out _ _) HV1.out _ _)).mono ?_; rintro e w' ⟨v2, rfl, hv2, q2, rfl⟩; have HV2 := Lib.hid hv2; clear hv2))
      refine bodyPost_ret (v := .agg #[.bool true, .float .f32 (fres .add .f32 y v2 w1.tape (w1.drewN (fdr .sub .f32 x y + q1 + fdr .add .f32 1065353216 v1 + q2)).drawn)]) (by unfold results; rw [Try.results38]; go_simp) rfl ?_
      refine ⟨_, rfl, ?_, ?_⟩
      · show some (fl .f32 _) = some (joinO _ _)
        rw [fl_fres, HV2.out, fl_fres, HV1.out, fl_fres, one32, ← HMJ.out]
        rfl
      · exact Below.setCell (p := ⟨w.heap.size + 1, 1, none⟩) (Below.setCell (p := ⟨w.heap.size + 1, 0, none⟩) (below_drewN bb _) (by simp) _) (by simp) _

end Go.Proofs.Ytopeidmafalklaa


namespace Go.Proofs.Ytopeidmafalklaa
open Go.RowKit


def softSign (s : Nat) (b : Bool) : Nat := if b then s else Op.negFloat .f32 s
def softOkB (n : Nat) (s : Nat) : Bool := decide (n ≤ 160) && finB (fl .f32 s)
def softOfL (bits : List Bool) (s : Nat) : List Nat := if softOkB bits.length s then bits.map (softSign s) else []



set_option maxRecDepth 100000 in
set_option maxHeartbeats 400000 in
theorem impl_SoftOf_go (w : World) (A : Option Addr) (n cap : Nat) (xs : List Bool) (hl : xs.length = n) (hx : Sl w w.heap.size A (xs.map Value.bool)) (s : Nat) (hn : n ≤ 160) (hf : finB (fl .f32 s) = true) :
    Calls Try.prog 20 #[.slice A n cap, .float .f32 s] w fun e w' => ∃ v, e = .returned (.tuple #[v, .bool true]) ∧ Ow w' w.heap.size 46 v ((xs.map (softSign s)).map (Value.float .f32)) ∧ Below w.heap.size w w' := by
  have HF := Lib.hid hf
  clear hf
  go_enter Try.func20, Try.ntmps20
  go_wp2_with (go_at_call 60; refine (impl_IsFinite_c _ _).mono ?_; rintro e w' ⟨rfl, q, rfl⟩; rw [HF.out])
  go_loopw [6, 20] (fun v i wr => ∃ k : Nat, k ≤ n ∧ i = .int .i64 k ∧ Ow wr w.heap.size 46 v (((xs.take k).map (softSign s)).map (Value.float .f32)) ∧ Below w.heap.size w wr) (fun _ i _ => n - (intOf i).toNat)
  case atStart => exact ⟨0, Nat.zero_le _, rfl, own_empty _ _ _ (Nat.le_refl _), below_drewN ((Below.refl _ _).alloc (Nat.le_refl _) _) _⟩
  case round =>
    obtain ⟨k, hk, rfl, ho, hb⟩ := hrel
    by_cases hlt : k < n
    · obtain ⟨b, off, rfl, hbb, hc1⟩ := (hx.below hb).get k (by omega)
      clear hx
      have hz := hb.size
      have hlen : (((xs.take k).map (softSign s)).map (Value.float .f32)).length + 1 ≤ 1099511627776 := by simp; omega
      have hst : ∀ u, softSign s (xs[k]'(by omega)) = u → (((xs.take k).map (softSign s)).map (Value.float .f32)) ++ [Value.float .f32 u] = ((xs.take (k+1)).map (softSign s)).map (Value.float .f32) := by
        rintro _ rfl
        rw [List.take_succ_eq_append_getElem (by omega), List.map_append, List.map_append]; rfl
      have HT := Lib.hid hst
      clear hst
      cases hbit : xs[k]'(by omega)
      all_goals
        rw [hbit] at hc1 HT
        clear hbit
        go_wp2_with (at_builtin; go_must (refine app1 Try.underlying25 infoFloat32 rfl (by decide) rfl _ _ rfl _ _ _ rfl (ho.alloc _) _ _ _ rfl (cell_new1 _ _ _) rfl hlen (by simp; omega) ?_); intro v' w1 ho1 hb1)
        go_roundw
        case rel =>
          refine ⟨k + 1, by omega, by go_num, ?_, (hb.alloc hz _).trans hb1⟩
          rw [← HT.out _ rfl]
          exact ho1
        case measure => simp [intOf]; omega
    · have : k = n := by omega
      subst this
      go_wp2
      go_ret2
      rw [take_all hl] at ho
      exact ⟨_, rfl, ho, hb⟩


theorem softOfL_len (xs : List Bool) (s : Nat) : (softOfL xs s).length ≤ 160 := by
  unfold softOfL softOkB
  split
  · rename_i h
    simp only [Bool.and_eq_true, decide_eq_true_eq] at h
    rw [List.length_map]
    exact h.1
  · exact Nat.zero_le _



set_option maxRecDepth 100000 in
theorem impl_SoftOf_c (w : World) (A : Option Addr) (n cap : Nat) (xs : List Bool) (hl : xs.length = n) (_hn : n ≤ 1048576) (hx : Sl w w.heap.size A (xs.map Value.bool)) (s : Nat) :
    Calls Try.prog 20 #[.slice A n cap, .float .f32 s] w fun e w' => ∃ v, e = .returned (.tuple #[v, .bool (softOkB n s)]) ∧ Ow w' w.heap.size 46 v ((softOfL xs s).map (Value.float .f32)) ∧ Below w.heap.size w w' := by
  by_cases h1 : n ≤ 160
  · cases hf : finB (fl .f32 s)
    · have e1 : softOkB n s = false := by simp [softOkB, hf]
      have e2 : softOfL xs s = [] := by unfold softOfL; rw [hl, e1]; rfl
      rw [e1, e2]
      have HF := Lib.hid hf
      clear hf e1 e2
      go_enter Try.func20, Try.ntmps20
      go_wp2_with (go_at_call 60; refine (impl_IsFinite_c _ _).mono ?_; rintro e w' ⟨rfl, q, rfl⟩; rw [HF.out])
      go_ret2
      exact ⟨_, rfl, World.ownsRow_nil _ _ _ _, below_of_drewN _ _ _⟩
    · have e1 : softOkB n s = true := by simp [softOkB, hf, h1]
      have e2 : softOfL xs s = xs.map (softSign s) := by unfold softOfL; rw [hl, e1]; rfl
      rw [e1, e2]
      exact impl_SoftOf_go w A n cap xs hl hx s h1 hf
  · have e1 : softOkB n s = false := by simp [softOkB, h1]
    have e2 : softOfL xs s = [] := by unfold softOfL; rw [hl, e1]; rfl
    rw [e1, e2]
    clear e1 e2
    go_enter Try.func20, Try.ntmps20
    go_wp2
    go_ret2
    exact ⟨_, rfl, World.ownsRow_nil _ _ _ _, Below.refl _ _⟩


def hardB (x : Nat) : Bool := FloatKind.f32.format.order x 0 == some Ordering.gt
def hardOfL (xs : List Nat) : List Bool := if softB xs then xs.map hardB else []
theorem hardOfL_len (xs : List Nat) : (hardOfL xs).length ≤ xs.length := by
  unfold hardOfL
  split
  · rw [List.length_map]; exact Nat.le_refl _
  · exact Nat.zero_le _


set_option maxRecDepth 100000 in
set_option maxHeartbeats 400000 in
theorem impl_hard_c (w : World) (A : Option Addr) (n cap : Nat) (xs : List Nat) (hl : xs.length = n) (hn : n ≤ 1048576) (hx : Sl w w.heap.size A (xs.map (Value.float .f32))) :
    Calls Try.prog 61 #[.slice A n cap] w fun e w' => ∃ v, e = .returned v ∧ Ow w' w.heap.size 4 v ((xs.map hardB).map Value.bool) ∧ Below w.heap.size w w' := by
  go_enter Try.func61, Try.ntmps61
  go_wp2
  go_loopw [3, 9] (fun v i wr => ∃ k : Nat, k ≤ n ∧ i = .int .i64 k ∧ Ow wr w.heap.size 4 v (((xs.take k).map hardB).map Value.bool) ∧ Below w.heap.size w wr) (fun _ i _ => n - (intOf i).toNat)
  case atStart => exact ⟨0, Nat.zero_le _, rfl, own_empty _ _ _ (Nat.le_refl _), (Below.refl _ _).alloc (Nat.le_refl _) _⟩
  case round =>
    obtain ⟨k, hk, rfl, ho, hb⟩ := hrel
    by_cases hlt : k < n
    · obtain ⟨b, off, rfl, hbb, hc1⟩ := (hx.below hb).get k (by omega)
      clear hx
      have hz := hb.size
      have hlen : (((xs.take k).map hardB).map Value.bool).length + 1 ≤ 1099511627776 := by simp; omega
      have hst : (((xs.take k).map hardB).map Value.bool) ++ [Value.bool (FloatKind.f32.format.order (xs[k]'(by omega)) 0 == some Ordering.gt)] = ((xs.take (k+1)).map hardB).map Value.bool := by
        rw [List.take_succ_eq_append_getElem (by omega), List.map_append, List.map_append]; rfl
      have HT := Lib.hid hst
      clear hst
      go_wp2_with (at_builtin; refine app1 Try.underlying41 infoBool rfl (by decide) rfl _ _ rfl _ _ _ rfl (ho.alloc _) _ _ _ rfl (cell_new1 _ _ _) rfl hlen (by simp; omega) ?_; intro v' w1 ho1 hb1)
      go_roundw
      case rel =>
        refine ⟨k + 1, by omega, by go_num, ?_, (hb.alloc hz _).trans hb1⟩
        rw [← HT.out]
        exact ho1
      case measure => simp [intOf]; omega
    · have : k = n := by omega
      subst this
      go_wp2
      go_ret
      rw [take_all hl] at ho
      exact ⟨_, rfl, ho, hb⟩




set_option maxRecDepth 100000 in
theorem impl_HardOf_c (w : World) (A : Option Addr) (n cap : Nat) (xs : List Nat) (hl : xs.length = n) (hn : n ≤ 1048576) (hx : Sl w w.heap.size A (xs.map (Value.float .f32))) :
    Calls Try.prog 21 #[.slice A n cap] w fun e w' => ∃ v, e = .returned (.tuple #[v, .bool (softB xs)]) ∧ Ow w' w.heap.size 4 v ((hardOfL xs).map Value.bool) ∧ Below w.heap.size w w' := by
  cases hs : softB xs
  · have e2 : hardOfL xs = [] := by simp [hardOfL, hs]
    rw [e2]
    clear e2
    have HS := Lib.hid hs
    clear hs
    go_enter Try.func21, Try.ntmps21
    go_wp2_with (go_at_call 26; refine (impl_IsSoft_c _ _ A n cap xs hl hx).mono ?_; rintro e w' ⟨rfl, q, rfl⟩; rw [HS.out])
    go_ret2
    exact ⟨_, rfl, World.ownsRow_nil _ _ _ _, below_of_drewN _ _ _⟩
  · have e2 : hardOfL xs = xs.map hardB := by simp [hardOfL, hs]
    rw [e2]
    clear e2
    have HS := Lib.hid hs
    clear hs
    go_enter Try.func21, Try.ntmps21
    go_wp2_with (first | (go_at_call 26; refine (impl_IsSoft_c _ _ A n cap xs hl hx).mono ?_; rintro e w' ⟨rfl, q, rfl⟩; rw [HS.out]) | (go_at_call 61; refine (impl_hard_c _ A n cap xs hl hn (hx.drewN _)).mono ?_; rintro e w' ⟨v, rfl, ho, hb⟩))
    go_ret2
    exact ⟨_, rfl, ho, (below_of_drewN _ _ _).trans hb⟩

end Go.Proofs.Ytopeidmafalklaa


namespace Go.Proofs.Ytopeidmafalklaa
open Go.RowKit

/-- a number lies within bounds -/
def inB (n lo hi : Int) : Bool := decide (lo ≤ n) && decide (n ≤ hi)
theorem inB_true {n lo hi : Int} : inB n lo hi = true ↔ lo ≤ n ∧ n ≤ hi := by simp [inB]
theorem inB_false {n lo hi : Int} : inB n lo hi = false ↔ n < lo ∨ hi < n := by
  rw [← Bool.not_eq_true, inB_true]; omega


theorem impl_within_c (w : World) (n lo hi : Int) : Calls Try.prog 63 #[.int .i64 n, .int .i64 lo, .int .i64 hi] w fun e w' => e = .returned (.bool (inB n lo hi)) ∧ w = w' := by
  by_cases h : lo ≤ n
  · go_enter Try.func63, Try.ntmps63
    go_wp2
    go_ret
    exact ⟨ret_bool (by simp [inB, h]), rfl⟩
  · go_enter Try.func63, Try.ntmps63
    go_wp2
    go_ret
    exact ⟨ret_bool (inB_false.2 (.inl (by omega))).symm, rfl⟩


theorem spec_l00In_c (w : World) (n lo hi : Int) : Calls Try.prog 71 #[.int .i64 n, .int .i64 lo, .int .i64 hi] w fun e w' => e = .returned (.bool (inB n lo hi)) ∧ w = w' := by
  by_cases h : lo ≤ n
  · go_enter Try.func71, Try.ntmps71
    go_wp2
    go_ret
    exact ⟨ret_bool (by simp [inB, h]), rfl⟩
  · go_enter Try.func71, Try.ntmps71
    go_wp2
    go_ret
    exact ⟨ret_bool (inB_false.2 (.inl (by omega))).symm, rfl⟩




theorem all_snoc {α : Type} (p : α → Bool) (xs : List α) (k : Nat) (hk : k < xs.length) (h : (xs.take k).all p = true) (h1 : p xs[k] = true) : (xs.take (k + 1)).all p = true := by
  rw [List.take_succ_eq_append_getElem hk, List.all_append, h]
  simp [h1]
theorem all_not {α : Type} (p : α → Bool) (xs : List α) (k : Nat) (hk : k < xs.length) (h1 : p xs[k] = false) : xs.all p = false := by
  rw [← Bool.not_eq_true, List.all_eq_true]
  intro h
  have := h _ (List.getElem_mem hk)
  rw [h1] at this
  cases this

set_option maxRecDepth 100000 in
set_option maxHeartbeats 400000 in
theorem impl_areWithin_c (w : World) (B : Nat) (A : Option Addr) (n cap : Nat) (xs : List Int) (hl : xs.length = n) (hn : n ≤ 1099511627776) (hx : Sl w B A (xs.map (Value.int .i64))) (lo hi : Int) :
    Calls Try.prog 64 #[.slice A n cap, .int .i64 lo, .int .i64 hi] w fun e w' => e = .returned (.bool (xs.all fun x => inB x lo hi)) ∧ ∃ m, w' = w.drewN m := by
  go_enter Try.func64, Try.ntmps64
  go_wp2
  go_loopw [11] (fun i wr => ∃ k m : Nat, k ≤ n ∧ i = .int .i64 k ∧ (xs.take k).all (fun x => inB x lo hi) = true ∧ wr = w.drewN m) (fun i _ => n - (intOf i).toNat)
  case atStart => exact ⟨0, 0, Nat.zero_le _, rfl, rfl, rfl⟩
  case round =>
    obtain ⟨k, m, hk, rfl, hp, rfl⟩ := hrel
    have HP := Lib.hid hp
    clear hp
    by_cases hlt : k < n
    · obtain ⟨b, off, rfl, hbb, hc1⟩ := hx.get k (by omega)
      clear hx
      cases hf : inB (xs[k]'(by omega)) lo hi
      · have HF := Lib.hid hf
        clear hf
        go_wp2_with (go_at_call 63; refine (impl_within_c _ _ _ _).mono ?_; rintro e w' ⟨rfl, rfl⟩; rw [HF.out])
        go_ret
        exact ⟨ret_bool (all_not (fun x => inB x lo hi) xs k (by omega) HF.out).symm, _, rfl⟩
      · have HF := Lib.hid hf
        clear hf
        go_wp2_with (go_at_call 63; refine (impl_within_c _ _ _ _).mono ?_; rintro e w' ⟨rfl, rfl⟩; rw [HF.out])
        go_roundw
        case rel => exact ⟨k+1, _, by omega, by go_num, all_snoc (fun x => inB x lo hi) xs k (by omega) HP.out HF.out, rfl⟩
        case measure => simp [intOf]; omega
    · have : k = n := by omega
      subst this
      go_wp2
      go_ret
      exact ⟨ret_bool (by rw [take_all hl] at HP; exact HP.out.symm), _, rfl⟩



end Go.Proofs.Ytopeidmafalklaa


namespace Go.Proofs.Ytopeidmafalklaa
open Go.RowKit

theorem below_undrew {a w : World} (h : Below a.drew.heap.size a.drew w) : Below a.heap.size a w := ⟨h.os, h.tape, h.output, h.size, h.block⟩
theorem below_undrewN {n : Nat} {a w : World} (h : Below (a.drewN n).heap.size (a.drewN n) w) : Below a.heap.size a w := ⟨h.os, h.tape, h.output, h.size, h.block⟩


set_option maxRecDepth 100000 in
set_option maxHeartbeats 400000 in
theorem toCoder_c (w : World) (m : Int) (A : Option Addr) (n cap : Nat) (xs : List Int) (hl : xs.length = n) (hn : n ≤ 1048576) (hx : Sl w w.heap.size A (xs.map (Value.int .i64))) :
    Calls Try.prog 7 #[.agg #[.int .i64 m, .slice A n cap]] w fun e w' => ∃ v, e = .returned (.agg #[.int .i64 m, v]) ∧ Ow w' w.heap.size 2 v (xs.map (Value.int .i64)) ∧ Below w.heap.size w w' := by
  go_enter Try.func7, Try.ntmps7
  go_wp2_with fail
  refine (toInt64S_c _ A n cap xs hl hn ((((hx.alloc (Nat.le_refl _) _).alloc (by simp) _).alloc (by simp; omega) _).more (by simp; omega))).mono ?_
  rintro e w1 ⟨v, rfl, ho, hb⟩
  obtain ⟨S, k, rfl, hp⟩ := ho.opn
  rw [hl] at hp
  rw [hl]
  have hz := hb.size
  simp at hz
  have h0 : w1.cell? ⟨w.heap.size + 1 + 1, 0, none⟩ = some (.int .i64 m) := (hb.cell (by simp)).trans (by (first | (simp; done) | (simp (disch := (first | (simp; done) | (simp; omega))) [World.cell?_alloc_at]; done) | (simp (disch := (first | (simp; done) | (simp; omega))) [World.cell?_alloc_past]; done) | (simp (disch := (first | (simp; done) | (simp; omega))) [World.cell?_alloc_at, World.cell?_alloc_past]; done) | (simp (disch := (first | (simp; done) | (simp; omega))) [World.frozen?_alloc_at]; done) | (simp (disch := (first | (simp; done) | (simp; omega))) [World.frozen?_alloc_past]; done) | (simp (disch := (first | (simp; done) | (simp; omega))) [World.frozen?_alloc_at, World.frozen?_alloc_past]; done)))
  have h1 : w1.cell? ⟨w.heap.size + 1 + 1, 1, none⟩ = some (.slice none 0 0) := (hb.cell (by simp)).trans (by (first | (simp; done) | (simp (disch := (first | (simp; done) | (simp; omega))) [World.cell?_alloc_at]; done) | (simp (disch := (first | (simp; done) | (simp; omega))) [World.cell?_alloc_past]; done) | (simp (disch := (first | (simp; done) | (simp; omega))) [World.cell?_alloc_at, World.cell?_alloc_past]; done) | (simp (disch := (first | (simp; done) | (simp; omega))) [World.frozen?_alloc_at]; done) | (simp (disch := (first | (simp; done) | (simp; omega))) [World.frozen?_alloc_past]; done) | (simp (disch := (first | (simp; done) | (simp; omega))) [World.frozen?_alloc_at, World.frozen?_alloc_past]; done)))
  have h2 : w1.cell? ⟨w.heap.size + 1, 0, none⟩ = some (.int .i64 0) := (hb.cell (by simp)).trans (by (first | (simp; done) | (simp (disch := (first | (simp; done) | (simp; omega))) [World.cell?_alloc_at]; done) | (simp (disch := (first | (simp; done) | (simp; omega))) [World.cell?_alloc_past]; done) | (simp (disch := (first | (simp; done) | (simp; omega))) [World.cell?_alloc_at, World.cell?_alloc_past]; done) | (simp (disch := (first | (simp; done) | (simp; omega))) [World.frozen?_alloc_at]; done) | (simp (disch := (first | (simp; done) | (simp; omega))) [World.frozen?_alloc_past]; done) | (simp (disch := (first | (simp; done) | (simp; omega))) [World.frozen?_alloc_at, World.frozen?_alloc_past]; done)))
  have h3 : w1.cell? ⟨w.heap.size + 1, 1, none⟩ = some (.slice none 0 0) := (hb.cell (by simp)).trans (by (first | (simp; done) | (simp (disch := (first | (simp; done) | (simp; omega))) [World.cell?_alloc_at]; done) | (simp (disch := (first | (simp; done) | (simp; omega))) [World.cell?_alloc_past]; done) | (simp (disch := (first | (simp; done) | (simp; omega))) [World.cell?_alloc_at, World.cell?_alloc_past]; done) | (simp (disch := (first | (simp; done) | (simp; omega))) [World.frozen?_alloc_at]; done) | (simp (disch := (first | (simp; done) | (simp; omega))) [World.frozen?_alloc_past]; done) | (simp (disch := (first | (simp; done) | (simp; omega))) [World.frozen?_alloc_at, World.frozen?_alloc_past]; done)))
  have f1 : w1.frozen? ⟨w.heap.size + 1 + 1, 1, none⟩ = false := (hb.frozen (by simp)).trans (by (first | (simp; done) | (simp (disch := (first | (simp; done) | (simp; omega))) [World.cell?_alloc_at]; done) | (simp (disch := (first | (simp; done) | (simp; omega))) [World.cell?_alloc_past]; done) | (simp (disch := (first | (simp; done) | (simp; omega))) [World.cell?_alloc_at, World.cell?_alloc_past]; done) | (simp (disch := (first | (simp; done) | (simp; omega))) [World.frozen?_alloc_at]; done) | (simp (disch := (first | (simp; done) | (simp; omega))) [World.frozen?_alloc_past]; done) | (simp (disch := (first | (simp; done) | (simp; omega))) [World.frozen?_alloc_at, World.frozen?_alloc_past]; done)))
  have f2 : w1.frozen? ⟨w.heap.size + 1, 0, none⟩ = false := (hb.frozen (by simp)).trans (by (first | (simp; done) | (simp (disch := (first | (simp; done) | (simp; omega))) [World.cell?_alloc_at]; done) | (simp (disch := (first | (simp; done) | (simp; omega))) [World.cell?_alloc_past]; done) | (simp (disch := (first | (simp; done) | (simp; omega))) [World.cell?_alloc_at, World.cell?_alloc_past]; done) | (simp (disch := (first | (simp; done) | (simp; omega))) [World.frozen?_alloc_at]; done) | (simp (disch := (first | (simp; done) | (simp; omega))) [World.frozen?_alloc_past]; done) | (simp (disch := (first | (simp; done) | (simp; omega))) [World.frozen?_alloc_at, World.frozen?_alloc_past]; done)))
  have f3 : w1.frozen? ⟨w.heap.size + 1, 1, none⟩ = false := (hb.frozen (by simp)).trans (by (first | (simp; done) | (simp (disch := (first | (simp; done) | (simp; omega))) [World.cell?_alloc_at]; done) | (simp (disch := (first | (simp; done) | (simp; omega))) [World.cell?_alloc_past]; done) | (simp (disch := (first | (simp; done) | (simp; omega))) [World.cell?_alloc_at, World.cell?_alloc_past]; done) | (simp (disch := (first | (simp; done) | (simp; omega))) [World.frozen?_alloc_at]; done) | (simp (disch := (first | (simp; done) | (simp; omega))) [World.frozen?_alloc_past]; done) | (simp (disch := (first | (simp; done) | (simp; omega))) [World.frozen?_alloc_at, World.frozen?_alloc_past]; done)))
  have hb' := (((Below.refl w.heap.size w).alloc (Nat.le_refl _) (Go.Obj.cells #[.int .i64 m, .slice A n cap] 24)).alloc (by simp) (Go.Obj.cells #[.int .i64 0, .slice none 0 0] 29)).alloc (by simp; omega) (Go.Obj.cells #[.int .i64 m, .slice none 0 0] 29)
  have hb2 := hb'.trans (hb.mono (by simp; omega))
  clear hb hb' hx
  go_wp2
  refine bodyPost_ret (v := .agg #[.int .i64 m, .slice S n k]) (by unfold results; rw [Try.results7]; go_simp) rfl ?_
  refine ⟨_, rfl, ?_, ?_⟩
  · have ho2 := ownsRow_setCell_below (ownsRow_setCell_below (ownsRow_setCell_below hp (a := ⟨w.heap.size + 1 + 1, 1, none⟩) (by simp) (.slice S n k)) (a := ⟨w.heap.size + 1, 0, none⟩) (by simp) (.int .i64 m)) (a := ⟨w.heap.size + 1, 1, none⟩) (by simp) (.slice S n k)
    unfold Ow
    rw [List.length_map, hl]
    have hz2 : w.heap.size ≤ (((w.alloc (Go.Obj.cells #[.int .i64 m, .slice A n cap] 24)).alloc (Go.Obj.cells #[.int .i64 0, .slice none 0 0] 29)).alloc (Go.Obj.cells #[.int .i64 m, .slice none 0 0] 29)).heap.size := by simp; omega
    exact own_base ho2 hz2
  · exact ((hb2.setCell (p := ⟨w.heap.size + 1 + 1, 1, none⟩) (by simp; omega) _).setCell (p := ⟨w.heap.size + 1, 0, none⟩) (by simp) _).setCell (p := ⟨w.heap.size + 1, 1, none⟩) (by simp) _


/-- what is left of a number when so many are taken -/
def szr (left : Int) (n : Nat) : Int := if left - n < 0 then -1 else left - n
theorem szr_bd {left : Int} (h0 : 0 ≤ left) (h1 : left ≤ 1048576) (n : Nat) : (szr left n < 0 ∧ szr left n = -1) ∨ (0 ≤ szr left n ∧ szr left n ≤ 1048576 ∧ (n : Int) ≤ left) := by
  unfold szr
  split <;> omega
theorem szInt64S_c (w : World) (A : Option Addr) (n cap : Nat) (left : Int) (h0 : 0 ≤ left) (h1 : left ≤ 1048576) (hn : n ≤ 9223372036854775807) :
    Calls Try.prog 33 #[.slice A n cap, .int .i64 left] w fun e w' => e = .returned (.int .i64 (szr left n)) ∧ w = w' := by
  by_cases h : left - n < 0
  · have e1 : szr left n = -1 := by unfold szr; rw [if_pos h]
    rw [e1]
    clear e1
    go_enter Try.func33, Try.ntmps33
    go_wp2
    go_ret
    exact ⟨rfl, rfl⟩
  · have e1 : szr left n = left - n := by unfold szr; rw [if_neg h]
    rw [e1]
    clear e1
    go_enter Try.func33, Try.ntmps33
    go_wp2
    go_ret
    exact ⟨rfl, rfl⟩


set_option maxRecDepth 100000 in
theorem szCoder_c (w : World) (m : Int) (A : Option Addr) (n cap : Nat) (left : Int) (h0 : 0 ≤ left) (h1 : left ≤ 1048576) (hn : n ≤ 9223372036854775807) :
    Calls Try.prog 5 #[.agg #[.int .i64 m, .slice A n cap], .int .i64 left] w fun e w' => e = .returned (.int .i64 (szr left n)) ∧ Below w.heap.size w w' := by
  have hb := szr_bd h0 h1 n
  obtain ⟨q, hq⟩ : ∃ q, szr left n = q := ⟨_, rfl⟩
  rw [hq] at hb ⊢
  have HQ := Lib.hid hq
  clear hq
  rcases hb with ⟨h2, rfl⟩ | ⟨h2, h3, h4⟩
  all_goals
    go_enter Try.func5, Try.ntmps5
    go_wp2_with (go_at_call 33; refine (szInt64S_c _ A n cap left h0 h1 hn).mono ?_; rintro e w' ⟨rfl, rfl⟩; rw [HQ.out])
    go_ret
    exact ⟨rfl, (Below.refl _ _).alloc (Nat.le_refl _) _⟩


theorem same_ne {xs ys : List Int} {i : Nat} (h1 : i < xs.length) (h2 : i < ys.length) (h : xs[i] ≠ ys[i]) : (xs == ys) = false := by
  rw [beq_eq_false_iff_ne]
  rintro rfl
  exact h rfl
theorem same_eq {xs ys : List Int} (hl : xs.length = ys.length) (h : ∀ i (h1 : i < xs.length) (h2 : i < ys.length), xs[i] = ys[i]) : (xs == ys) = true := by
  rw [beq_iff_eq]
  exact List.ext_getElem hl h
theorem same_len {xs ys : List Int} (h : xs.length ≠ ys.length) : (xs == ys) = false := by
  rw [beq_eq_false_iff_ne]
  rintro rfl
  exact h rfl


set_option maxRecDepth 100000 in
set_option maxHeartbeats 1000000 in
theorem Equal_i64_c (w : World) (B : Nat) (A A2 : Option Addr) (n cap n2 cap2 : Nat) (xs ys : List Int) (hl : xs.length = n) (hl2 : ys.length = n2) (hn : n ≤ 1099511627776) (hn2 : n2 ≤ 1099511627776) (hx : Sl w B A (xs.map (Value.int .i64))) (hy : Sl w B A2 (ys.map (Value.int .i64))) :
    Calls Try.prog 65 #[.slice A n cap, .slice A2 n2 cap2] w fun e w' => e = .returned (.bool (xs == ys)) ∧ ∃ m, w' = w.drewN m := by
  by_cases hne : n = n2
  · subst hne
    have he : ((n : Int) == (n : Int)) = true := by simp
    go_enter Try.func65, Try.ntmps65
    go_wp2
    go_loopw [13] (fun i wr => ∃ k m : Nat, k ≤ n ∧ i = .int .i64 k ∧ (∀ j (h1 : j < xs.length) (h2 : j < ys.length), j < k → xs[j] = ys[j]) ∧ wr = w.drewN m) (fun i _ => n - (intOf i).toNat)
    case atStart => exact ⟨0, 0, Nat.zero_le _, rfl, fun j _ _ hj => by omega, rfl⟩
    case round =>
      obtain ⟨k, m, hk, rfl, hp, rfl⟩ := hrel
      have HP := Lib.hid hp
      clear hp
      by_cases hlt : k < n
      · obtain ⟨b, off, rfl, hbb, hc1⟩ := hx.get k (by omega)
        obtain ⟨b2, off2, rfl, hbb2, hc2⟩ := hy.get k (by omega)
        obtain ⟨x, hxx⟩ : ∃ x, xs[k]'(by omega) = x := ⟨_, rfl⟩
        obtain ⟨y, hyy⟩ : ∃ y, ys[k]'(by omega) = y := ⟨_, rfl⟩
        rw [hxx] at hc1
        rw [hyy] at hc2
        have HX := Lib.hid hxx
        have HY := Lib.hid hyy
        clear hx hy hxx hyy
        by_cases hxy : x = y
        · subst hxy
          have hd : (x == x) = true := by simp
          go_wp2_with fail
          go_quiet (fail)
          go_wp2
          go_roundw
          case rel =>
            refine ⟨k + 1, _, by omega, by go_num, ?_, rfl⟩
            intro j h1 h2 hj
            by_cases hjk : j = k
            · subst hjk
              rw [HX.out, HY.out]
            · exact HP.out j h1 h2 (by omega)
          case measure => simp [intOf]; omega
        · have hd : (x == y) = false := by simpa using hxy
          go_wp2_with fail
          go_quiet (fail)
          go_wp2
          go_ret
          exact ⟨ret_bool (same_ne (i := k) (by omega) (by omega) (by rw [HX.out, HY.out]; exact hxy)).symm, _, World.drewN_drewN _ _ _⟩
      · have : k = n := by omega
        subst this
        go_wp2
        go_ret
        exact ⟨ret_bool (same_eq (by omega) (fun i h1 h2 => HP.out i h1 h2 (by omega))).symm, _, rfl⟩
  · have he : ((n : Int) == (n2 : Int)) = false := by simp; omega
    rw [same_len (by omega)]
    go_enter Try.func65, Try.ntmps65
    go_wp2
    go_ret
    exact ⟨rfl, 0, rfl⟩


set_option maxRecDepth 100000 in
theorem eqCoder_t (w : World) (m : Int) (A B : Option Addr) (n cap cap' : Nat) (xs : List Int) (hl : xs.length = n) (hn : n ≤ 1099511627776) (hx : Sl w w.heap.size A (xs.map (Value.int .i64))) (hy : Sl w w.heap.size B (xs.map (Value.int .i64))) :
    Calls Try.prog 11 #[.agg #[.int .i64 m, .slice A n cap], .agg #[.int .i64 m, .slice B n cap']] w fun e w' => e = .returned (.bool true) ∧ Below w.heap.size w w' := by
  have he : (m == m) = true := by simp
  go_enter Try.func11, Try.ntmps11
  go_wp2_with (go_at_call 53; refine (eqInt64S_t _ A B n cap cap' _ _ xs hl hn ((hx.alloc (Nat.le_refl _) _).alloc (by simp) _) ((hy.alloc (Nat.le_refl _) _).alloc (by simp) _)).mono ?_; rintro e w' ⟨rfl, q, rfl⟩)
  go_ret
  exact ⟨rfl, below_drewN (((Below.refl _ _).alloc (Nat.le_refl _) _).alloc (by simp) _) _⟩


def sameCoderB (m : Int) (xs : List Int) (m2 : Int) (ys : List Int) : Bool := (m == m2) && (xs == ys)
set_option maxRecDepth 100000 in
theorem impl_SameCoder_b (w : World) (m m2 : Int) (A A2 : Option Addr) (n cap n2 cap2 : Nat) (xs ys : List Int) (hl : xs.length = n) (hl2 : ys.length = n2) (hn : n ≤ 1099511627776) (hn2 : n2 ≤ 1099511627776) (hx : Sl w w.heap.size A (xs.map (Value.int .i64))) (hy : Sl w w.heap.size A2 (ys.map (Value.int .i64))) :
    Calls Try.prog 25 #[.agg #[.int .i64 m, .slice A n cap], .agg #[.int .i64 m2, .slice A2 n2 cap2]] w fun e w' => e = .returned (.bool (sameCoderB m xs m2 ys)) ∧ Below w.heap.size w w' := by
  unfold sameCoderB
  cases he : m == m2
  all_goals
    go_enter Try.func25, Try.ntmps25
    go_wp2_with (go_at_call 65; refine (Equal_i64_c _ _ A A2 n cap n2 cap2 xs ys hl hl2 hn hn2 ((hx.alloc (Nat.le_refl _) _).alloc (by simp) _) ((hy.alloc (Nat.le_refl _) _).alloc (by simp) _)).mono ?_; rintro e w' ⟨rfl, q, rfl⟩)
    go_ret
    first
      | exact ⟨rfl, below_drewN (((Below.refl _ _).alloc (Nat.le_refl _) _).alloc (by simp) _) _⟩
      | exact ⟨rfl, ((Below.refl _ _).alloc (Nat.le_refl _) _).alloc (by simp) _⟩

theorem impl_SameCoder_c (w : World) (m : Int) (A : Option Addr) (n cap : Nat) (xs : List Int) (hl : xs.length = n) (hn : n ≤ 1048576) (hx : Sl w w.heap.size A (xs.map (Value.int .i64)))
    (m2 : Int) (A2 : Option Addr) (n2 cap2 : Nat) (ys : List Int) (hl2 : ys.length = n2) (hn2 : n2 ≤ 1048576) (hy : Sl w w.heap.size A2 (ys.map (Value.int .i64))) :
    Calls Try.prog 25 #[.agg #[.int .i64 m, .slice A n cap], .agg #[.int .i64 m2, .slice A2 n2 cap2]] w fun e w' => e = .returned (.bool (sameCoderB m xs m2 ys)) ∧ Below w.heap.size w w' :=
  impl_SameCoder_b w m m2 A A2 n cap n2 cap2 xs ys hl hl2 (by omega) (by omega) hx hy

end Go.Proofs.Ytopeidmafalklaa


namespace Go.Proofs.Ytopeidmafalklaa
open Go.RowKit


def validCoderB (m : Int) (xs : List Int) : Bool := (inB m 1 4 && decide (1 ≤ xs.length) && decide (xs.length ≤ 4)) && xs.all fun x => inB x 1 (2 * 2 ^ m.toNat - 1)

theorem vc_no {m : Int} {xs : List Int} (h : (inB m 1 4 && decide (1 ≤ xs.length) && decide (xs.length ≤ 4)) = false) : validCoderB m xs = false := by
  unfold validCoderB; rw [h]; rfl
theorem vc_yes {m : Int} {xs : List Int} (h : (inB m 1 4 && decide (1 ≤ xs.length) && decide (xs.length ≤ 4)) = true) : validCoderB m xs = xs.all fun x => inB x 1 (2 * 2 ^ m.toNat - 1) := by
  unfold validCoderB; rw [h]; rfl
theorem vc_q {m : Int} (h : inB m 1 4 = true) : (m = 1 ∧ (2 * 2 ^ m.toNat - 1 : Int) = 3) ∨ (m = 2 ∧ (2 * 2 ^ m.toNat - 1 : Int) = 7) ∨ (m = 3 ∧ (2 * 2 ^ m.toNat - 1 : Int) = 15) ∨ (m = 4 ∧ (2 * 2 ^ m.toNat - 1 : Int) = 31) := by
  rw [inB_true] at h
  have h6 : m = 1 ∨ m = 2 ∨ m = 3 ∨ m = 4 := by omega
  rcases h6 with rfl | rfl | rfl | rfl <;> decide

theorem within_is {w : World} {x lo hi : Int} {bb : Bool} {n : Nat} (hb : inB x lo hi = bb) :
    Calls Try.prog 63 #[.int .i64 x, .int .i64 lo, .int .i64 hi] (w.drewN n) fun e w' => e = .returned (.bool bb) ∧ ∃ k, w' = w.drewN k := by
  refine (impl_within_c _ _ _ _).mono ?_
  rintro e w' ⟨rfl, rfl⟩
  exact ⟨by rw [hb], _, rfl⟩

theorem areWithin_is {w : World} {B n cap q : Nat} {A : Option Addr} {xs : List Int} {lo hi : Int} (hl : xs.length = n) (hn : n ≤ 1048576) (hx : Sl w B A (xs.map (Value.int .i64))) :
    Calls Try.prog 64 #[.slice A n cap, .int .i64 lo, .int .i64 hi] (w.drewN q) fun e w' => e = .returned (.bool (xs.all fun x => inB x lo hi)) ∧ ∃ k, w' = w.drewN k := by
  refine (impl_areWithin_c (w.drewN q) B A n cap xs hl (by omega) (hx.drewN q) lo hi).mono ?_
  rintro e w' ⟨rfl, m, rfl⟩
  exact ⟨rfl, _, World.drewN_drewN _ _ _⟩

set_option maxRecDepth 100000 in
set_option maxHeartbeats 4000000 in
theorem impl_ValidCoder_c (w : World) (m : Int) (A : Option Addr) (n cap : Nat) (xs : List Int) (hl : xs.length = n) (hn : n ≤ 1048576) (hx : Sl w w.heap.size A (xs.map (Value.int .i64))) :
    Calls Try.prog 24 #[.agg #[.int .i64 m, .slice A n cap]] w fun e w' => e = .returned (.bool (validCoderB m xs)) ∧ Below w.heap.size w w' := by
  have hx' := hx.alloc (Nat.le_refl _) (.cells #[.int .i64 m, .slice A n cap] 29)
  have hB : Below w.heap.size w (w.alloc (.cells #[.int .i64 m, .slice A n cap] 29)) := (Below.refl _ _).alloc (Nat.le_refl _) _
  cases hm : inB m 1 4
  · rw [vc_no (by rw [hm]; rfl)]
    have HM := Lib.hid hm
    clear hm
    go_enter Try.func24, Try.ntmps24
    go_wp2_with fail
    go_quiet ((go_at_call 63; exact within_is HM.out))
    go_wp2
    go_ret
    exact ⟨rfl, below_drewN hB _⟩
  · by_cases h1 : 1 ≤ n
    · by_cases h4 : n ≤ 4
      · rw [vc_yes (by rw [hm, hl]; simp [h1, h4])]
        have HM := Lib.hid hm
        have hq := vc_q hm
        generalize hQ : (2 * 2 ^ m.toNat - 1 : Int) = Q at hq ⊢
        clear hQ hm
        have d1 : decide ((1 : Int) ≤ (n : Int)) = true := by simp; omega
        have d2 : decide ((n : Int) ≤ 4) = true := by simp; omega
        rcases hq with ⟨rfl, rfl⟩ | ⟨rfl, rfl⟩ | ⟨rfl, rfl⟩ | ⟨rfl, rfl⟩
        all_goals
          go_enter Try.func24, Try.ntmps24
          go_wp2_with fail
          go_quiet ((first | (go_at_call 63; exact within_is HM.out) | (go_at_call 64; exact areWithin_is hl hn hx')))
          go_wp2
          go_ret
          exact ⟨rfl, below_drewN hB _⟩
      · rw [vc_no (by rw [hl]; simp [h4])]
        have HM := Lib.hid hm
        have d1 : decide ((1 : Int) ≤ (n : Int)) = true := by simp; omega
        have d2 : decide ((n : Int) ≤ 4) = false := by simp; omega
        clear hm
        go_enter Try.func24, Try.ntmps24
        go_wp2_with fail
        go_quiet ((go_at_call 63; exact within_is HM.out))
        go_wp2
        go_ret
        exact ⟨rfl, below_drewN hB _⟩
    · rw [vc_no (by rw [hl]; simp [h1])]
      have HM := Lib.hid hm
      have d1 : decide ((1 : Int) ≤ (n : Int)) = false := by simp; omega
      clear hm
      go_enter Try.func24, Try.ntmps24
      go_wp2_with fail
      go_quiet ((go_at_call 63; exact within_is HM.out))
      go_wp2
      go_ret
      exact ⟨rfl, below_drewN hB _⟩

theorem l00In_at {w : World} {x lo hi : Int} {bb : Bool} {n m : Nat} (hb : inB x lo hi = bb) :
    Calls Try.prog 71 #[.int .i64 x, .int .i64 lo, .int .i64 hi] (w.drewN (n + m)) fun e w' => e = .returned (.bool bb) ∧ ∃ k, w' = w.drewN (n + k) := by
  refine (spec_l00In_c _ _ _ _).mono ?_
  rintro e w' ⟨rfl, rfl⟩
  exact ⟨by rw [hb], _, rfl⟩

set_option maxRecDepth 100000 in
set_option maxHeartbeats 4000000 in
theorem spec_l07Coder_c (w : World) (b : Nat) (m : Int) (B : Nat) (A : Option Addr) (n cap : Nat) (xs : List Int) (h0 : w.cell? ⟨b, 0, none⟩ = some (.int .i64 m)) (h1 : w.cell? ⟨b, 1, none⟩ = some (.slice A n cap)) (hl : xs.length = n) (hn : n ≤ 1048576) (hx : Sl w B A (xs.map (Value.int .i64))) :
    Calls Try.prog 34 #[.pointer (some ⟨b, 0, none⟩)] w fun e w' => e = .returned (.bool (validCoderB m xs)) ∧ ∃ k, w' = w.drewN k := by
  cases hm : inB m 1 4
  · rw [vc_no (by rw [hm]; rfl)]
    have HM := Lib.hid hm
    clear hm
    go_enter Try.func34, Try.ntmps34
    go_wp2_with (go_at_call 71; refine (spec_l00In_c _ _ _ _).mono ?_; rintro e w' ⟨rfl, rfl⟩; rw [HM.out])
    go_ret
    exact ⟨rfl, 0, rfl⟩
  · by_cases g1 : 1 ≤ n
    · by_cases g4 : n ≤ 4
      · rw [vc_yes (by rw [hm, hl]; simp [g1, g4])]
        have HM := Lib.hid hm
        have hq := vc_q hm
        generalize hQ : (2 * 2 ^ m.toNat - 1 : Int) = Q at hq ⊢
        obtain ⟨ib, hib⟩ : ∃ ib : Int → Bool, ∀ x, inB x 1 Q = ib x := ⟨_, fun _ => rfl⟩
        have e1 : (xs.all fun x => inB x 1 Q) = xs.all ib := by simp only [hib]
        rw [e1]
        have HI := Lib.hid hib
        clear hQ hm hib e1
        rcases hq with ⟨rfl, rfl⟩ | ⟨rfl, rfl⟩ | ⟨rfl, rfl⟩ | ⟨rfl, rfl⟩
        all_goals
          go_enter Try.func34, Try.ntmps34
          go_wp2_with (go_at_call 71; refine (spec_l00In_c _ _ _ _).mono ?_; rintro e w' ⟨rfl, rfl⟩; rw [HM.out])
          go_loopw [31] (fun i wr => ∃ k q : Nat, k ≤ n ∧ i = .int .i64 k ∧ (xs.take k).all ib = true ∧ wr = w.drewN q) (fun i _ => n - (intOf i).toNat)
          case atStart => exact ⟨0, 0, Nat.zero_le _, rfl, rfl, rfl⟩
          case round =>
            obtain ⟨k, q, hk, rfl, hp, rfl⟩ := hrel
            have HP := Lib.hid hp
            clear hp
            by_cases hlt : k < n
            · obtain ⟨b2, off, rfl, hbb, hc1⟩ := hx.get k (by omega)
              have htk : (xs.take (k + 1)).all ib = ((xs.take k).all ib && ib (xs[k]'(by omega))) := by
                rw [List.take_succ_eq_append_getElem (by omega), List.all_append]; simp
              have hal : ib (xs[k]'(by omega)) = false → xs.all ib = false := fun h => by
                rw [← Bool.not_eq_true, List.all_eq_true]
                intro hh
                rw [hh _ (List.getElem_mem _)] at h
                cases h
              clear hx
              obtain ⟨x, hxx⟩ : ∃ x, xs[k]'(by omega) = x := ⟨_, rfl⟩
              rw [hxx] at hc1 htk hal
              have HT := Lib.hid htk
              have HA := Lib.hid hal
              clear htk hxx hal
              cases hbx : ib x
              · have HX := Lib.hid ((HI.out x).trans hbx)
                have HF := Lib.hid hbx
                clear hbx
                go_wp2_with fail
                go_quiet ((go_at_call 71; exact l00In_at HX.out))
                go_wp2
                go_ret
                exact ⟨ret_bool (HA.out HF.out).symm, _, World.drewN_drewN _ _ _⟩
              · have HX := Lib.hid ((HI.out x).trans hbx)
                have HF := Lib.hid hbx
                clear hbx
                go_wp2_with fail
                go_quiet ((go_at_call 71; exact l00In_at HX.out))
                go_wp2
                go_roundw
                case rel =>
                  refine ⟨k + 1, _, by omega, by go_num, ?_, rfl⟩
                  rw [HT.out, HP.out, HF.out]
                  rfl
                case measure => simp [intOf]; omega
            · have : k = n := by omega
              subst this
              go_wp2
              go_ret
              refine ⟨ret_bool ?_, _, rfl⟩
              have h := HP.out
              rw [List.take_of_length_le (by omega)] at h
              exact h.symm
      · rw [vc_no (by rw [hl]; simp [g4])]
        have HM := Lib.hid hm
        clear hm
        go_enter Try.func34, Try.ntmps34
        go_wp2_with (go_at_call 71; refine (spec_l00In_c _ _ _ _).mono ?_; rintro e w' ⟨rfl, rfl⟩; rw [HM.out])
        go_ret
        exact ⟨rfl, 0, rfl⟩
    · rw [vc_no (by rw [hl]; simp [g1])]
      have HM := Lib.hid hm
      clear hm
      go_enter Try.func34, Try.ntmps34
      go_wp2_with (go_at_call 71; refine (spec_l00In_c _ _ _ _).mono ?_; rintro e w' ⟨rfl, rfl⟩; rw [HM.out])
      go_ret
      exact ⟨rfl, 0, rfl⟩


end Go.Proofs.Ytopeidmafalklaa


namespace Go.Proofs.Ytopeidmafalklaa

def tstep (h : Nat) (l : List Bool) (i : Nat) : List Bool := if i / h % 2 = 0 then l.set i (l.getD i false != l.getD (i + h) false) else l
def tround (h : Nat) (l : List Bool) : Nat → List Bool
  | 0 => l
  | k + 1 => tstep h (tround h l k) k
def tgo : Nat → Nat → List Bool → List Bool
  | 0, _, l => l
  | f + 1, h, l => if h = 0 then l else tgo f (h / 2) (tround h l l.length)
def turnL (l : List Bool) : List Bool := tgo 5 (l.length / 2) l

theorem tstep_len (h : Nat) (l : List Bool) (i : Nat) : (tstep h l i).length = l.length := by
  unfold tstep; split <;> simp
theorem tround_len (h : Nat) (l : List Bool) (k : Nat) : (tround h l k).length = l.length := by
  induction k with
  | zero => rfl
  | succ k ih => rw [tround, tstep_len, ih]
theorem tgo_len (f h : Nat) (l : List Bool) : (tgo f h l).length = l.length := by
  induction f generalizing h l with
  | zero => rfl
  | succ f ih =>
    rw [tgo]
    split
    · rfl
    · rw [ih, tround_len]
theorem turnL_len (l : List Bool) : (turnL l).length = l.length := tgo_len _ _ _
theorem tgo_zero (f : Nat) (l : List Bool) : tgo f 0 l = l := by cases f <;> simp [tgo]
theorem tgo_pos (f h : Nat) (l : List Bool) (hh : h ≠ 0) : tgo (f + 1) h l = tgo f (h / 2) (tround h l l.length) := by rw [tgo, if_neg hh]

/-- lengths that are powers of two, and their halves -/
def Half (n h : Nat) : Prop := n ∈ [1, 2, 4, 8, 16, 32] ∧ h ∈ [0, 1, 2, 4, 8, 16] ∧ 2 * h ≤ n
theorem Half.start {n : Nat} (h : n ∈ [1, 2, 4, 8, 16, 32]) : Half n (n / 2) := by
  simp only [List.mem_cons, List.not_mem_nil, or_false] at h
  rcases h with rfl | rfl | rfl | rfl | rfl | rfl <;> (unfold Half; decide)
theorem Half.next {n h : Nat} (hh : Half n h) : Half n (h / 2) := by
  obtain ⟨h1, h2, h3⟩ := hh
  refine ⟨h1, ?_, by omega⟩
  simp only [List.mem_cons, List.not_mem_nil, or_false] at h2
  rcases h2 with rfl | rfl | rfl | rfl | rfl | rfl <;> decide
theorem half_bd : ∀ n ∈ [1, 2, 4, 8, 16, 32], ∀ h ∈ [1, 2, 4, 8, 16], 2 * h ≤ n → ∀ i < n, i / h % 2 = 0 → i + h < n := by decide
theorem Half.bd {n h i : Nat} (hh : Half n h) (h0 : h ≠ 0) (hi : i < n) (he : i / h % 2 = 0) : i + h < n := by
  obtain ⟨h1, h2, h3⟩ := hh
  refine half_bd n h1 h ?_ h3 i hi he
  simp only [List.mem_cons, List.not_mem_nil, or_false] at h2 ⊢
  omega
theorem Half.le {n h : Nat} (hh : Half n h) : n ≤ 32 ∧ h ≤ 16 := by
  obtain ⟨h1, h2, h3⟩ := hh
  simp only [List.mem_cons, List.not_mem_nil, or_false] at h1 h2
  omega
theorem even_int (i h : Nat) : (((i : Int) / (h : Int)) % 2 == 0) = decide (i / h % 2 = 0) := by
  rw [Bool.eq_iff_iff]
  simp only [beq_iff_eq, decide_eq_true_eq]
  omega
end Go.Proofs.Ytopeidmafalklaa


namespace Go.Proofs.Ytopeidmafalklaa
open Go.RowKit

theorem bool_cell {w : World} {base g n cap : Nat} {l : List Bool} (h : w.ownsRow base 4 1 (.slice (some ⟨g, 0, none⟩) n cap) n (l.map Value.bool)) {q : Nat} (hq : q < n) (hl : l.length = n) :
    w.cell? ⟨g, q, none⟩ = some (.bool (l.getD q false)) := by
  rw [h.cellAt q (by omega)]
  simp [List.getD, show q < l.length by omega]

theorem and_even : ∀ h ∈ [1, 2, 4, 8, 16], ∀ i < 32, (bits BinOp.and IntKind.i64 (i : Nat) (h : Nat) == 0) = decide (i / h % 2 = 0) := by decide +kernel



def pcI (x : Int) : Int := x % 2 + x / 2 % 2 + x / 4 % 2 + x / 8 % 2 + x / 16 % 2 + x / 32 % 2
set_option maxRecDepth 100000 in
set_option maxHeartbeats 1000000 in
theorem OnesCount64_c (w : World) (x : Int) (h0 : 0 ≤ x) (h1 : x ≤ 32) : Calls Try.prog 98 #[.int .u64 x] w fun e w' => e = .returned (.int .i64 (pcI x)) ∧ w = w' := by
  go_enter Try.func98, Try.ntmps98
  go_wp2
  go_ret
  refine ⟨ret_int ?_, rfl⟩
  obtain ⟨n, hn, rfl⟩ : ∃ n : Nat, n < 33 ∧ x = n := ⟨x.toNat, by omega, by omega⟩
  clear h0 h1 w
  revert n
  decide +kernel





def isTwo (n : Nat) : Bool := n == 1 || n == 2 || n == 4 || n == 8 || n == 16 || n == 32
theorem isTwo_mem {n : Nat} (h : isTwo n = true) : n ∈ [1, 2, 4, 8, 16, 32] := by
  unfold isTwo at h
  simp at h ⊢
  omega
def polarTurnL (l : List Bool) : List Bool := if isTwo l.length then turnL l else []
theorem polarTurnL_len (l : List Bool) : (polarTurnL l).length ≤ l.length := by
  unfold polarTurnL
  split
  · rw [turnL_len]; exact Nat.le_refl _
  · exact Nat.zero_le _


theorem pc_two : ∀ n < 33, 1 ≤ n → (pcI ((n : Nat) : Int) != 1) = !isTwo n := by decide +kernel

end Go.Proofs.Ytopeidmafalklaa


namespace Go.Proofs.Ytopeidmafalklaa
open Go.RowKit


def oddI (x : Int) : Bool := pcI x % 2 == 1
theorem oddI_step : ∀ n < 32, 0 < n → oddI ((n : Nat) : Int) = ((((n : Nat) : Int) % 2 == 1) != oddI (((n / 2 : Nat)) : Int)) := by decide +kernel
theorem pc_bd : ∀ n < 33, 0 ≤ pcI ((n : Nat) : Int) ∧ pcI ((n : Nat) : Int) ≤ 6 := by decide +kernel
theorem and_bd0 : ∀ a < 32, ∀ b < 32, 0 ≤ bits .and .i64 ((a : Nat) : Int) ((b : Nat) : Int) ∧ bits .and .i64 ((a : Nat) : Int) ((b : Nat) : Int) ≤ 31 := by decide +kernel
theorem and_bd {a b : Int} (h0 : 0 ≤ a) (h1 : a ≤ 31) (h2 : 0 ≤ b) (h3 : b ≤ 31) : 0 ≤ bits .and .i64 a b ∧ bits .and .i64 a b ≤ 31 := by
  obtain ⟨a, rfl⟩ : ∃ n : Nat, a = n := ⟨a.toNat, by omega⟩
  obtain ⟨b, rfl⟩ : ∃ n : Nat, b = n := ⟨b.toNat, by omega⟩
  exact and_bd0 a (by omega) b (by omega)


set_option maxRecDepth 100000 in
theorem impl_weightOf_c (w : World) (x : Int) (h0 : 0 ≤ x) (h1 : x ≤ 32) : Calls Try.prog 94 #[.int .i64 x] w fun e w' => e = .returned (.int .i64 (pcI x)) ∧ w = w' := by
  have hcv : IntKind.u64.wrap x = x := IntWalk.u64_in _ (by omega)
  go_enter Try.func94, Try.ntmps94
  go_wp2_with (go_at_call 98; refine (OnesCount64_c _ _ h0 h1).mono ?_; rintro e w' ⟨rfl, rfl⟩)
  have hp := pc_bd x.toNat (by omega)
  rw [show ((x.toNat : Nat) : Int) = x by omega] at hp
  go_ret
  exact ⟨rfl, rfl⟩
set_option maxRecDepth 100000 in
theorem impl_isOdd_c (w : World) (x : Int) (h0 : 0 ≤ x) (h1 : x ≤ 32) : Calls Try.prog 83 #[.int .i64 x] w fun e w' => e = .returned (.bool (oddI x)) ∧ w = w' := by
  have hp := pc_bd x.toNat (by omega)
  rw [show ((x.toNat : Nat) : Int) = x by omega] at hp
  go_enter Try.func83, Try.ntmps83
  go_wp2_with (go_at_call 94; refine (impl_weightOf_c _ _ h0 h1).mono ?_; rintro e w' ⟨rfl, rfl⟩)
  go_ret
  exact ⟨ret_bool rfl, rfl⟩


set_option maxRecDepth 100000 in
theorem spec_l07Odd_c (w : World) (x : Int) (h0 : 0 ≤ x) (h1 : x ≤ 31) : Calls Try.prog 89 #[.int .i64 x] w fun e w' => e = .returned (.bool (oddI x)) ∧ w = w' := by
  go_enter Try.func89, Try.ntmps89
  go_wp2
  go_loop [0, 3] (fun y o => ∃ (k : Nat) (d : Bool), y = .int .i64 (k : Int) ∧ o = .bool d ∧ k < 32 ∧ (d != oddI (k : Int)) = oddI x) (fun y _ => (intOf y).toNat)
  case atStart => exact ⟨x.toNat, false, by rw [show ((x.toNat : Nat) : Int) = x by omega], rfl, by omega, by rw [show ((x.toNat : Nat) : Int) = x by omega]; simp⟩
  case round =>
    obtain ⟨k, d, rfl, rfl, hk, hd⟩ := hrel
    have HD := Lib.hid hd
    clear hd
    by_cases hz : 0 < k
    · have hs := oddI_step k hk hz
      have HS := Lib.hid hs
      clear hs
      go_wp2
      go_round
      case rel =>
        refine ⟨k / 2, _, by go_num, rfl, by omega, ?_⟩
        have h2 := HD.out
        rw [HS.out] at h2
        rw [← h2]
        generalize oddI ((k / 2 : Nat) : Int) = z
        generalize ((k : Int) % 2 == 1) = y
        cases d <;> cases y <;> cases z <;> rfl
      case measure => simp [intOf]; omega
    · have : k = 0 := by omega
      subst this
      go_wp2
      go_ret
      exact ⟨ret_bool (by have h2 := HD.out; rw [← h2]; cases d <;> decide), rfl⟩


def bitI (b : Bool) : Int := if b then 1 else 0
def stI (M : Nat) (bs : List Bool) : Nat → Int
  | 0 => 0
  | k + 1 => (2 * stI M bs k + bitI (bs.getD k false)) % 2 ^ M
def sentL (ms : List Int) (a : Int) : List Bool := ms.map fun m => oddI (bits .and .i64 a m)
def outR (M : Nat) (ms : List Int) (bs : List Bool) : Nat → List Bool
  | 0 => []
  | k + 1 => outR M ms bs k ++ sentL ms (2 * stI M bs k + bitI (bs.getD k false))
def sendBitsOk (m : Int) (ms : List Int) (bs : List Bool) : Bool := validCoderB m ms && decide (bs.length ≤ 40)
def sendBitsL (m : Int) (ms : List Int) (bs : List Bool) : List Bool := if sendBitsOk m ms bs then outR m.toNat ms bs (bs.length + m.toNat) else []
theorem bitI_bd (b : Bool) : 0 ≤ bitI b ∧ bitI b ≤ 1 := by cases b <;> decide
theorem two_pow_bd {M : Nat} (h : M ≤ 4) : (1 : Int) ≤ 2 ^ M ∧ (2 : Int) ^ M ≤ 16 := by
  have h5 : M = 0 ∨ M = 1 ∨ M = 2 ∨ M = 3 ∨ M = 4 := by omega
  rcases h5 with rfl | rfl | rfl | rfl | rfl <;> decide
theorem stI_bd {M : Nat} (h : M ≤ 4) (bs : List Bool) (k : Nat) : 0 ≤ stI M bs k ∧ stI M bs k ≤ 15 := by
  cases k with
  | zero => exact ⟨Int.le_refl _, by unfold stI; decide⟩
  | succ k =>
    have h1 := two_pow_bd h
    unfold stI
    have h2 := Int.emod_nonneg (2 * stI M bs k + bitI (bs.getD k false)) (show (2 : Int) ^ M ≠ 0 by omega)
    have h3 := Int.emod_lt_of_pos (2 * stI M bs k + bitI (bs.getD k false)) (show (0 : Int) < 2 ^ M by omega)
    omega
theorem sentL_len (ms : List Int) (a : Int) : (sentL ms a).length = ms.length := by simp [sentL]
theorem outR_len (M : Nat) (ms : List Int) (bs : List Bool) (k : Nat) : (outR M ms bs k).length = k * ms.length := by
  induction k with
  | zero => simp [outR]
  | succ k ih => rw [outR, List.length_append, sentL_len, ih, Nat.succ_mul]
theorem outR_bd {M : Nat} {ms : List Int} {bs : List Bool} {k : Nat} (hm : ms.length ≤ 4) (hk : k ≤ 44) : (outR M ms bs k).length ≤ 176 := by
  rw [outR_len]
  exact Nat.le_trans (Nat.mul_le_mul hk hm) (by decide)
theorem vc_facts {m : Int} {ms : List Int} (h : validCoderB m ms = true) : 1 ≤ m ∧ m ≤ 4 ∧ 1 ≤ ms.length ∧ ms.length ≤ 4 ∧ ∀ x ∈ ms, 0 ≤ x ∧ x ≤ 31 := by
  unfold validCoderB at h
  simp only [Bool.and_eq_true, decide_eq_true_eq, List.all_eq_true, inB_true] at h
  obtain ⟨⟨⟨⟨h1, h2⟩, h3⟩, h4⟩, h5⟩ := h
  refine ⟨h1, h2, h3, h4, fun x hx => ?_⟩
  have h6 := h5 x hx
  have h7 := two_pow_bd (M := m.toNat) (by omega)
  omega
theorem sendBitsL_len (m : Int) (ms : List Int) (bs : List Bool) : (sendBitsL m ms bs).length ≤ 176 := by
  unfold sendBitsL sendBitsOk
  split
  · rename_i h
    rw [Bool.and_eq_true, decide_eq_true_eq] at h
    have h1 := vc_facts h.1
    exact outR_bd h1.2.2.2.1 (by omega)
  · simp
theorem sentL_snoc {ms : List Int} {a : Int} {k : Nat} (hk : k < ms.length) : (sentL (ms.take k) a).map Value.bool ++ [Value.bool (oddI (bits .and .i64 a ms[k]))] = (sentL (ms.take (k + 1)) a).map Value.bool := by
  unfold sentL
  rw [List.take_succ_eq_append_getElem hk, List.map_append, List.map_append]
  rfl


theorem spec_l07Whole_c (w : World) (s : Int) (b : Bool) (h0 : 0 ≤ s) (h1 : s ≤ 15) : Calls Try.prog 72 #[.int .i64 s, .bool b] w fun e w' => e = .returned (.int .i64 (2 * s + bitI b)) ∧ w = w' := by
  cases b
  all_goals
    go_enter Try.func72, Try.ntmps72
    go_wp2
    go_ret
    exact ⟨ret_int (by simp [bitI]), rfl⟩


theorem l07Whole_at {w : World} {s : Int} {b : Bool} {q : Nat} (h0 : 0 ≤ s) (h1 : s ≤ 15) : Calls Try.prog 72 #[.int .i64 s, .bool b] (w.drewN q) fun e w' => e = .returned (.int .i64 (2 * s + bitI b)) ∧ ∃ k, w' = w.drewN k := by
  refine (spec_l07Whole_c _ s b h0 h1).mono ?_
  rintro e w' ⟨rfl, rfl⟩
  exact ⟨rfl, _, rfl⟩
set_option maxRecDepth 100000 in
theorem spec_l07Next_c (w : World) (g M : Nat) (s : Int) (b : Bool) (h0 : 0 ≤ s) (h1 : s ≤ 15) (hM1 : 1 ≤ M) (hM : M ≤ 4) (hc : w.cell? ⟨g, 0, none⟩ = some (.int .i64 (M : Int))) :
    Calls Try.prog 37 #[.pointer (some ⟨g, 0, none⟩), .int .i64 s, .bool b] w fun e w' => e = .returned (.int .i64 ((2 * s + bitI b) % 2 ^ M)) ∧ ∃ k, w' = w.drewN k := by
  have hb := bitI_bd b
  have h5 : M = 1 ∨ M = 2 ∨ M = 3 ∨ M = 4 := by omega
  obtain ⟨x, hx⟩ : ∃ x, 2 * s + bitI b = x := ⟨_, rfl⟩
  have hx0 : 0 ≤ x := by omega
  have hx1 : x ≤ 31 := by omega
  rw [hx]
  have HX := Lib.hid hx
  clear hx
  have hwh : ∀ q, Calls Try.prog 72 #[.int .i64 s, .bool b] (w.drewN q) fun e w' => e = .returned (.int .i64 x) ∧ ∃ k, w' = w.drewN k := fun q => by
    rw [← HX.out]; exact l07Whole_at h0 h1
  have HW := Lib.hid hwh
  clear hwh
  rcases h5 with rfl | rfl | rfl | rfl
  all_goals
    go_enter Try.func37, Try.ntmps37
    go_wp2_with fail
    go_quiet ((go_at_call 72; exact HW.out _))
    go_wp2
    go_ret
    exact ⟨ret_int (by first | rfl | (simp; done) | omega), _, rfl⟩


set_option maxRecDepth 100000 in
set_option maxHeartbeats 1000000 in
theorem spec_l07Sends_c (w : World) (g B : Nat) (A : Option Addr) (n cap : Nat) (ms : List Int) (hl : ms.length = n) (hn : n ≤ 4) (hr : ∀ x ∈ ms, 0 ≤ x ∧ x ≤ 31) (hg : g < w.heap.size) (hB : B ≤ w.heap.size) (hx : Sl w B A (ms.map (Value.int .i64))) (s : Int) (b : Bool) (h0 : 0 ≤ s) (h1 : s ≤ 15) (hc : w.cell? ⟨g, 1, none⟩ = some (.slice A n cap)) :
    Calls Try.prog 76 #[.pointer (some ⟨g, 0, none⟩), .int .i64 s, .bool b] w fun e w' => ∃ v, e = .returned v ∧ Ow w' w.heap.size 4 v ((sentL ms (2 * s + bitI b)).map Value.bool) ∧ Below w.heap.size w w' := by
  have hb := bitI_bd b
  obtain ⟨a, ha⟩ : ∃ x, 2 * s + bitI b = x := ⟨_, rfl⟩
  have ha0 : 0 ≤ a := by omega
  have ha1 : a ≤ 31 := by omega
  rw [ha]
  have HA := Lib.hid ha
  clear ha
  go_enter Try.func76, Try.ntmps76
  go_wp2_with (go_at_call 72; refine (spec_l07Whole_c _ s b h0 h1).mono ?_; rintro e w' ⟨rfl, rfl⟩; rw [HA.out])
  go_loopw [8, 19] (fun v i wr => ∃ k : Nat, k ≤ n ∧ i = .int .i64 k ∧ Ow wr w.heap.size 4 v ((sentL (ms.take k) a).map Value.bool) ∧ Below w.heap.size w wr) (fun _ i _ => n - (intOf i).toNat)
  case atStart => exact ⟨0, Nat.zero_le _, rfl, own_empty _ _ _ (Nat.le_refl _), (Below.refl _ _).alloc (Nat.le_refl _) _⟩
  case round =>
    obtain ⟨k, hk, rfl, ho, hb⟩ := hrel
    by_cases hlt : k < n
    · obtain ⟨b1, off, rfl, hbb, hc1⟩ := ((hx.more hB).below hb).get k (by omega)
      have hm := hr (ms[k]'(by omega)) (List.getElem_mem _)
      have hc2 := (hb.cell (p := ⟨g, 1, none⟩) hg).trans hc
      have hz := hb.size
      have hst := sentL_snoc (ms := ms) (a := a) (k := k) (by omega)
      obtain ⟨x, hxx⟩ : ∃ x, ms[k]'(by omega) = x := ⟨_, rfl⟩
      rw [hxx] at hc1 hm hst
      have hand := and_bd ha0 ha1 hm.1 hm.2
      have hlen : ((sentL (ms.take k) a).map Value.bool).length + 1 ≤ 1099511627776 := by simp [sentL_len]; omega
      have HT := Lib.hid hst
      clear hx hst hxx hr hc
      go_wp2_with (first
        | (go_at_call 89; refine (spec_l07Odd_c _ _ hand.1 hand.2).mono ?_; rintro e w' ⟨rfl, rfl⟩)
        | (at_builtin; refine app1 Try.underlying41 infoBool rfl (by decide) rfl _ _ rfl _ _ _ rfl (ho.alloc _) _ _ _ rfl (cell_new1 _ _ _) rfl hlen (by simp; omega) ?_; intro v' w1 ho1 hb1))
      go_roundw
      case rel =>
        refine ⟨k + 1, by omega, by go_num, ?_, (hb.alloc hz _).trans hb1⟩
        rw [← HT.out]
        exact ho1
      case measure => simp [intOf]; omega
    · have : k = n := by omega
      subst this
      go_wp2
      go_ret
      rw [take_all hl] at ho
      exact ⟨_, rfl, ho, hb⟩


set_option maxRecDepth 100000 in
theorem impl_states_c (w : World) (M : Nat) (hM1 : 1 ≤ M) (hM : M ≤ 4) (A : Option Addr) (n cap : Nat) :
    Calls Try.prog 45 #[.agg #[.int .i64 (M : Int), .slice A n cap]] w fun e w' => e = .returned (.int .i64 (2 ^ M)) ∧ Below w.heap.size w w' := by
  have h5 : M = 1 ∨ M = 2 ∨ M = 3 ∨ M = 4 := by omega
  have hB := fun M : Nat => (Below.refl w.heap.size w).alloc (Nat.le_refl _) (Go.Obj.cells #[.int .i64 (M : Int), .slice A n cap] 29)
  have HB := Lib.hid hB
  clear hB
  rcases h5 with rfl | rfl | rfl | rfl
  · go_enter Try.func45, Try.ntmps45
    go_wp2
    go_ret
    exact ⟨ret_int (by decide), HB.out 1⟩
  · go_enter Try.func45, Try.ntmps45
    go_wp2
    go_ret
    exact ⟨ret_int (by decide), HB.out 2⟩
  · go_enter Try.func45, Try.ntmps45
    go_wp2
    go_ret
    exact ⟨ret_int (by decide), HB.out 3⟩
  · go_enter Try.func45, Try.ntmps45
    go_wp2
    go_ret
    exact ⟨ret_int (by decide), HB.out 4⟩


theorem rem_in {a : Int} {M : Nat} (_h0 : 0 ≤ a) (_h1 : a ≤ 31) (hM : M ≤ 4) : 0 ≤ a % 2 ^ M ∧ a % 2 ^ M ≤ 15 := by
  have h1 := two_pow_bd hM
  have h2 := Int.emod_nonneg a (show (2 : Int) ^ M ≠ 0 by omega)
  have h3 := Int.emod_lt_of_pos a (show (0 : Int) < 2 ^ M by omega)
  omega
set_option maxRecDepth 100000 in
set_option maxHeartbeats 1000000 in
theorem impl_send_c (w : World) (M : Nat) (hM1 : 1 ≤ M) (hM : M ≤ 4) (A : Option Addr) (n cap : Nat) (ms : List Int) (hl : ms.length = n) (hn : n ≤ 4) (hr : ∀ x ∈ ms, 0 ≤ x ∧ x ≤ 31) (hx : Sl w w.heap.size A (ms.map (Value.int .i64))) (s b : Int) (h0 : 0 ≤ s) (h1 : s ≤ 15) (hb0 : 0 ≤ b) (hb1 : b ≤ 1) :
    Calls Try.prog 58 #[.agg #[.int .i64 (M : Int), .slice A n cap], .int .i64 s, .int .i64 b] w fun e w' => ∃ v, e = .returned (.tuple #[v, .int .i64 ((2 * s + b) % 2 ^ M)]) ∧ Ow w' w.heap.size 4 v ((sentL ms (2 * s + b)).map Value.bool) ∧ Below w.heap.size w w' := by
  obtain ⟨a, ha⟩ : ∃ x, 2 * s + b = x := ⟨_, rfl⟩
  have ha0 : 0 ≤ a := by omega
  have ha1 : a ≤ 31 := by omega
  have hp2 := two_pow_bd hM
  have hrem := rem_in ha0 ha1 hM
  rw [ha]
  have HA := Lib.hid ha
  obtain ⟨P, hP⟩ : ∃ P : Int, 2 ^ M = P := ⟨_, rfl⟩
  rw [hP] at hp2 hrem ⊢
  have HP := Lib.hid hP
  have hP0 : P ≠ 0 := by omega
  have htm : a.tmod P = a % P := Int.tmod_eq_emod_of_nonneg ha0
  have hPz : (P == 0) = false := by simpa using hP0
  have hPd : decide (P = 0) = false := by simpa using hP0
  clear ha hP
  go_enter Try.func58, Try.ntmps58
  go_wp2
  rw [HA.out]
  obtain ⟨w1, ew⟩ : ∃ q : World, q = w.alloc (.cells #[.int .i64 (M : Int), .slice A n cap] 29) := ⟨_, rfl⟩
  have e1 : w.heap.size + 1 = w1.heap.size := by rw [ew]; simp
  rw [← ew, e1]
  have hB : Below w.heap.size w w1 := by rw [ew]; exact (Below.refl _ _).alloc (Nat.le_refl _) _
  have c0 : w1.cell? ⟨w.heap.size, 0, none⟩ = some (.int .i64 (M : Int)) := by rw [ew]; (first | (simp; done) | (simp (disch := (first | (simp; done) | (simp; omega))) [World.cell?_alloc_at]; done) | (simp (disch := (first | (simp; done) | (simp; omega))) [World.cell?_alloc_past]; done) | (simp (disch := (first | (simp; done) | (simp; omega))) [World.cell?_alloc_at, World.cell?_alloc_past]; done) | (simp (disch := (first | (simp; done) | (simp; omega))) [World.frozen?_alloc_at]; done) | (simp (disch := (first | (simp; done) | (simp; omega))) [World.frozen?_alloc_past]; done) | (simp (disch := (first | (simp; done) | (simp; omega))) [World.frozen?_alloc_at, World.frozen?_alloc_past]; done))
  have c1 : w1.cell? ⟨w.heap.size, 1, none⟩ = some (.slice A n cap) := by rw [ew]; (first | (simp; done) | (simp (disch := (first | (simp; done) | (simp; omega))) [World.cell?_alloc_at]; done) | (simp (disch := (first | (simp; done) | (simp; omega))) [World.cell?_alloc_past]; done) | (simp (disch := (first | (simp; done) | (simp; omega))) [World.cell?_alloc_at, World.cell?_alloc_past]; done) | (simp (disch := (first | (simp; done) | (simp; omega))) [World.frozen?_alloc_at]; done) | (simp (disch := (first | (simp; done) | (simp; omega))) [World.frozen?_alloc_past]; done) | (simp (disch := (first | (simp; done) | (simp; omega))) [World.frozen?_alloc_at, World.frozen?_alloc_past]; done))
  have hx1 := (hx.below hB).more hB.size
  clear ew hx
  go_loopw [9, 20] (fun v i wr => ∃ k : Nat, k ≤ n ∧ i = .int .i64 k ∧ Ow wr w1.heap.size 4 v ((sentL (ms.take k) a).map Value.bool) ∧ Below w1.heap.size w1 wr) (fun _ i _ => n - (intOf i).toNat)
  case atStart => exact ⟨0, Nat.zero_le _, rfl, own_empty _ _ _ (Nat.le_refl _), (Below.refl _ _).alloc (Nat.le_refl _) _⟩
  case round =>
    obtain ⟨k, hk, rfl, ho, hb⟩ := hrel
    by_cases hlt : k < n
    · obtain ⟨b1, off, rfl, hbb, hc1⟩ := (hx1.below hb).get k (by omega)
      have hm := hr (ms[k]'(by omega)) (List.getElem_mem _)
      have hz := hb.size
      have hst := sentL_snoc (ms := ms) (a := a) (k := k) (by omega)
      obtain ⟨x, hxx⟩ : ∃ x, ms[k]'(by omega) = x := ⟨_, rfl⟩
      rw [hxx] at hc1 hm hst
      have hand := and_bd ha0 ha1 hm.1 hm.2
      have hlen : ((sentL (ms.take k) a).map Value.bool).length + 1 ≤ 1099511627776 := by simp [sentL_len]; omega
      have HT := Lib.hid hst
      clear hx1 hst hxx hr c0 c1
      go_wp2_with (first
        | (go_at_call 83; refine (impl_isOdd_c _ _ hand.1 (by omega)).mono ?_; rintro e w' ⟨rfl, rfl⟩)
        | (at_builtin; refine app1 Try.underlying41 infoBool rfl (by decide) rfl _ _ rfl _ _ _ rfl (ho.alloc _) _ _ _ rfl (cell_new1 _ _ _) rfl hlen (by simp; omega) ?_; intro v' w1 ho1 hb1))
      go_roundw
      case rel =>
        refine ⟨k + 1, by omega, by go_num, ?_, (hb.alloc hz _).trans hb1⟩
        rw [← HT.out]
        exact ho1
      case measure => simp [intOf]; omega
    · have : k = n := by omega
      subst this
      rw [take_all hl] at ho
      have hz := hb.size
      have d0 := (hb.cell (p := ⟨w.heap.size, 0, none⟩) (by simp only []; omega)).trans c0
      have d1 := (hb.cell (p := ⟨w.heap.size, 1, none⟩) (by simp only []; omega)).trans c1
      have hst := fun W : World => impl_states_c W M hM1 hM A k cap
      rw [HP.out] at hst
      have HS := Lib.hid hst
      clear hst c0 c1 hx1
      go_wp2_with fail
      go_region_held3 (fun w' => w'.cell? ⟨w.heap.size, 0, none⟩ = some (.int .i64 (M : Int)) ∧ w'.cell? ⟨w.heap.size, 1, none⟩ = some (.slice A k cap))
        (first | exact ⟨d2, d3⟩ | exact ⟨d0, d1⟩)
        (first
          | (go_at_call 45; refine (HS.out wr.drew).mono ?_; rintro e w3 ⟨rfl, hb3⟩; have hb3 := below_undrew hb3; have d2 := (hb3.cell (p := ⟨w.heap.size, 0, none⟩) (by simp only []; omega)).trans d0; have d3 := (hb3.cell (p := ⟨w.heap.size, 1, none⟩) (by simp only []; omega)).trans d1))
      go_wp2
      go_ret2
      exact ⟨_, rfl, own_base (own_below ho hb3 (Nat.le_refl _)) hB.size, hB.trans ((hb.trans (hb3.mono hb.size)).mono hB.size)⟩


set_option maxRecDepth 100000 in
theorem impl_bitAt_c (w : World) (B : Nat) (A : Option Addr) (n cap : Nat) (bs : List Bool) (hl : bs.length = n) (hx : Sl w B A (bs.map Value.bool)) (k : Nat) :
    Calls Try.prog 59 #[.slice A n cap, .int .i64 (k : Int)] w fun e w' => e = .returned (.int .i64 (bitI (bs.getD k false))) ∧ w = w' := by
  by_cases hlt : k < n
  · obtain ⟨b, off, rfl, hbb, hc1⟩ := hx.get k (by omega)
    have hkb : k < bs.length := by omega
    have hg : bs.getD k false = bs[k]'hkb := by simp [List.getD, hkb]
    rw [hg]
    obtain ⟨v, hv⟩ : ∃ v, bs[k]'hkb = v := ⟨_, rfl⟩
    rw [hv] at hc1 ⊢
    clear hg hv hx
    cases v
    all_goals
      go_enter Try.func59, Try.ntmps59
      go_wp2
      go_ret
      exact ⟨rfl, rfl⟩
  · have hg : bs.getD k false = false := by simp [List.getD, List.getElem?_eq_none (show bs.length ≤ k by omega)]
    rw [hg]
    clear hg
    go_enter Try.func59, Try.ntmps59
    go_wp2
    go_ret
    exact ⟨rfl, rfl⟩



theorem so_no {m : Int} {ms : List Int} {bs : List Bool} (h : sendBitsOk m ms bs = false) : sendBitsL m ms bs = [] := by unfold sendBitsL; rw [h]; rfl
theorem so_yes {M : Nat} {ms : List Int} {bs : List Bool} {n : Nat} (h : sendBitsOk (M : Int) ms bs = true) (hl : bs.length = n) : sendBitsL (M : Int) ms bs = outR M ms bs (n + M) := by unfold sendBitsL; rw [h, hl, if_pos rfl, Int.toNat_natCast]

set_option maxRecDepth 100000 in
set_option maxHeartbeats 2000000 in
theorem impl_SendBits_c (w : World) (m : Int) (A : Option Addr) (n cap : Nat) (ms : List Int) (hl : ms.length = n) (hn : n ≤ 1048576) (hx0 : Sl w w.heap.size A (ms.map (Value.int .i64)))
    (A2 : Option Addr) (n2 cap2 : Nat) (bs : List Bool) (hl2 : bs.length = n2) (hn2 : n2 ≤ 1048576) (hy0 : Sl w w.heap.size A2 (bs.map Value.bool)) :
    Calls Try.prog 19 #[.agg #[.int .i64 m, .slice A n cap], .slice A2 n2 cap2] w fun e w' => ∃ v, e = .returned (.tuple #[v, .bool (sendBitsOk m ms bs)]) ∧ Ow w' w.heap.size 4 v ((sendBitsL m ms bs).map Value.bool) ∧ Below w.heap.size w w' := by
  obtain ⟨w1, ew⟩ : ∃ q : World, q = w.alloc (.cells #[.int .i64 m, .slice A n cap] 29) := ⟨_, rfl⟩
  have hB : Below w.heap.size w w1 := by rw [ew]; exact (Below.refl _ _).alloc (Nat.le_refl _) _
  have c0 : w1.cell? ⟨w.heap.size, 0, none⟩ = some (.int .i64 m) := by rw [ew]; (first | (simp; done) | (simp (disch := (first | (simp; done) | (simp; omega))) [World.cell?_alloc_at]; done) | (simp (disch := (first | (simp; done) | (simp; omega))) [World.cell?_alloc_past]; done) | (simp (disch := (first | (simp; done) | (simp; omega))) [World.cell?_alloc_at, World.cell?_alloc_past]; done) | (simp (disch := (first | (simp; done) | (simp; omega))) [World.frozen?_alloc_at]; done) | (simp (disch := (first | (simp; done) | (simp; omega))) [World.frozen?_alloc_past]; done) | (simp (disch := (first | (simp; done) | (simp; omega))) [World.frozen?_alloc_at, World.frozen?_alloc_past]; done))
  have c1 : w1.cell? ⟨w.heap.size, 1, none⟩ = some (.slice A n cap) := by rw [ew]; (first | (simp; done) | (simp (disch := (first | (simp; done) | (simp; omega))) [World.cell?_alloc_at]; done) | (simp (disch := (first | (simp; done) | (simp; omega))) [World.cell?_alloc_past]; done) | (simp (disch := (first | (simp; done) | (simp; omega))) [World.cell?_alloc_at, World.cell?_alloc_past]; done) | (simp (disch := (first | (simp; done) | (simp; omega))) [World.frozen?_alloc_at]; done) | (simp (disch := (first | (simp; done) | (simp; omega))) [World.frozen?_alloc_past]; done) | (simp (disch := (first | (simp; done) | (simp; omega))) [World.frozen?_alloc_at, World.frozen?_alloc_past]; done))
  have hz : w1.heap.size = w.heap.size + 1 := by rw [ew]; simp
  have hx := (hx0.below hB).more hB.size
  have hy := (hy0.below hB).more hB.size
  clear hx0 hy0
  cases hv : validCoderB m ms
  · have e1 : sendBitsOk m ms bs = false := by unfold sendBitsOk; rw [hv]; rfl
    rw [so_no e1, e1]
    have HV := Lib.hid hv
    clear hv e1
    go_enter Try.func19, Try.ntmps19
    go_wp2_with fail
    rw [← ew]
    clear ew
    go_wp2_with (go_at_call 24; refine (impl_ValidCoder_c w1 m A n cap ms hl hn hx).mono ?_; rintro e w2 ⟨rfl, hb2⟩; rw [HV.out])
    go_ret2
    exact ⟨_, rfl, World.ownsRow_nil _ _ _ _, hB.trans (hb2.mono hB.size)⟩
  · by_cases h40 : n2 ≤ 40
    · have e1 : sendBitsOk m ms bs = true := by unfold sendBitsOk; rw [hv, hl2]; simpa using h40
      have hf := vc_facts hv
      obtain ⟨M, rfl⟩ : ∃ M : Nat, m = (M : Int) := ⟨m.toNat, by omega⟩
      rw [so_yes e1 hl2, e1]
      have HV := Lib.hid hv
      clear hv e1
      go_enter Try.func19, Try.ntmps19
      go_wp2_with fail
      rw [← ew]
      clear ew
      refine (impl_ValidCoder_c w1 (M : Int) A n cap ms hl hn hx).mono ?_
      rintro e w2 ⟨rfl, hb2⟩
      rw [HV.out]
      have hz2 := hb2.size
      have d0 := (hb2.cell (p := ⟨w.heap.size, 0, none⟩) (by simp only []; omega)).trans c0
      have d1 := (hb2.cell (p := ⟨w.heap.size, 1, none⟩) (by simp only []; omega)).trans c1
      have hB2 := hB.trans (hb2.mono hB.size)
      have hx2 := (hx.below hb2).more hz2
      have hy2 := (hy.below hb2).more hz2
      have hlt0 : w.heap.size < w2.heap.size := by omega
      clear c0 c1 hx hy
      go_wp2
      go_loopw [6, 7, 24] (fun v s i wr => ∃ k : Nat, k ≤ n2 + M ∧ i = .int .i64 k ∧ s = .int .i64 (stI M bs k) ∧ Ow wr w2.heap.size 4 v ((outR M ms bs k).map Value.bool) ∧ Below w2.heap.size w2 wr) (fun _ _ i _ => n2 + M - (intOf i).toNat)
      case atStart => exact ⟨0, Nat.zero_le _, rfl, rfl, own_empty _ _ _ (Nat.le_refl _), (Below.refl _ _).alloc (Nat.le_refl _) _⟩
      case round =>
        obtain ⟨k, hk, rfl, rfl, ho, hb⟩ := hrel
        have hst := stI_bd (M := M) (by omega) bs k
        have hz := hb.size
        have f0 := (hb.cell (p := ⟨w.heap.size, 0, none⟩) (by simp only []; omega)).trans d0
        have f1 := (hb.cell (p := ⟨w.heap.size, 1, none⟩) (by simp only []; omega)).trans d1
        have hx1 := (hx2.below hb).more hz
        have hy1 := (hy2.below hb).more hz
        have hlen := outR_bd (M := M) (ms := ms) (bs := bs) (k := k) (by omega) (by omega)
        have ho1 : outR M ms bs (k + 1) = outR M ms bs k ++ sentL ms (2 * stI M bs k + bitI (bs.getD k false)) := rfl
        have hs1 : stI M bs (k + 1) = (2 * stI M bs k + bitI (bs.getD k false)) % 2 ^ M := rfl
        have HO1 := Lib.hid ho1
        have HS1 := Lib.hid hs1
        obtain ⟨s, hs⟩ : ∃ s, stI M bs k = s := ⟨_, rfl⟩
        rw [hs] at hst HO1 HS1 ⊢
        clear ho1 hs1 hs hx2 hy2 d0 d1
        by_cases hlt : k < n2 + M
        · have hbi := bitI_bd (bs.getD k false)
          have hat := impl_bitAt_c wr.drew wr.heap.size A2 n2 cap2 bs hl2 hy1 k
          obtain ⟨z, hzz⟩ : ∃ z, bitI (bs.getD k false) = z := ⟨_, rfl⟩
          rw [hzz] at hbi HO1 HS1 hat
          have HAT := Lib.hid hat
          clear hzz hat hy1
          go_wp2_with fail
          go_region_held3 (fun w' => w'.cell? ⟨w.heap.size, 0, none⟩ = some (.int .i64 (M : Int)) ∧ w'.cell? ⟨w.heap.size, 1, none⟩ = some (.slice A n cap))
            (first | exact ⟨g0, g1⟩ | exact ⟨f0, f1⟩)
            (first
              | (go_at_call 58; refine (impl_send_c wr.drew M (by omega) (by omega) A n cap ms hl (by omega) hf.2.2.2.2 hx1 s z hst.1 hst.2 hbi.1 hbi.2).mono ?_; rintro e w3 ⟨u, rfl, ho3, hb3⟩; have hb3 := below_undrew hb3; have g0 := (hb3.cell (p := ⟨w.heap.size, 0, none⟩) (by simp only []; omega)).trans f0; have g1 := (hb3.cell (p := ⟨w.heap.size, 1, none⟩) (by simp only []; omega)).trans f1)
              | (go_at_call 59; refine HAT.out.mono ?_; rintro e w' ⟨rfl, rfl⟩))
          obtain ⟨S, q, rfl, hp⟩ := ho3.opn
          have hoo := own_below ho hb3 (Nat.le_refl _)
          have hz3 := hb3.size
          have hsl := sl_of_own hp
          have hsn := sentL_len ms (2 * s + z)
          clear ho3 hx1 f0 f1
          go_wp2_with (at_builtin; refine appS Try.underlying41 infoBool rfl (by decide) rfl _ _ rfl _ _ _ rfl hoo _ _ _ _ _ rfl (by simp [sentL_len, hl]) hsl one_bool (by simp; omega) (by omega) ?_; intro v' w4 ho4 hb4)
          go_roundw
          case rel =>
            refine ⟨k + 1, by omega, by go_num, by rw [HS1.out], ?_, hb.trans ((hb3.mono hz).trans hb4)⟩
            rw [HO1.out, List.map_append]
            exact ho4
          case measure => simp [intOf]; omega
        · have : k = n2 + M := by omega
          subst this
          go_wp2
          go_ret2
          exact ⟨_, rfl, own_base ho hB2.size, hB2.trans (hb.mono hB2.size)⟩
    · have e1 : sendBitsOk m ms bs = false := by unfold sendBitsOk; rw [hv, hl2]; simpa using h40
      rw [so_no e1, e1]
      have HV := Lib.hid hv
      clear hv e1
      go_enter Try.func19, Try.ntmps19
      go_wp2_with fail
      rw [← ew]
      clear ew
      go_wp2_with (go_at_call 24; refine (impl_ValidCoder_c w1 m A n cap ms hl hn hx).mono ?_; rintro e w2 ⟨rfl, hb2⟩; rw [HV.out])
      go_ret2
      exact ⟨_, rfl, World.ownsRow_nil _ _ _ _, hB.trans (hb2.mono hB.size)⟩

theorem cell_apart {w w' : World} {u : Value} {p : Addr} (hg : w.grownBy w' u.ownBlock) {c d : Nat} (hu : In u c d) (hp : p.block < w.heap.size) (hs : p.block < c ∨ d ≤ p.block) : w'.cell? p = w.cell? p := by
  have h1 := hg.block p.block hp (fun he => by
    have h2 := hu p.block he.symm
    omega)
  unfold World.cell?
  rw [h1]

theorem grown_alloc {w w' : World} {o : Go.Obj} {row : Option Nat} (h : (w.alloc o).grownBy w' row) : w.grownBy w' row := by
  have hb := (Below.refl w.heap.size w).alloc (Nat.le_refl _) o
  exact ⟨h.os.trans hb.os, h.tape.trans hb.tape, h.output.trans hb.output, Nat.le_trans hb.size h.size, fun i hi hne => (h.block i (Nat.lt_of_lt_of_le hi hb.size) hne).trans (hb.block i hi)⟩
set_option maxRecDepth 100000 in
theorem markCoder_c (w : World) (base : Nat) (m : Int) (A : Option Addr) (n cap : Nat) (xs : List Value) (hn : n ≤ 1099511627776) (k : Int) (h0 : 0 ≤ k) (hk : k ≤ 1099511627776) (ho : w.ownsRow base 2 1 (.slice A n cap) n xs) :
    Calls Try.prog 12 #[.agg #[.int .i64 m, .slice A n cap], .int .i64 k] w fun e w' => e = .returned (.int .i64 (k + n)) ∧ w'.ownsRow base 2 1 (.slice A n cap) n (marks (fun q => .int .i64 q) k n) ∧ w.grownBy w' (Value.slice A n cap).ownBlock := by
  have ho1 := own_below ho ((Below.refl w.heap.size w).alloc (Nat.le_refl _) (Go.Obj.cells #[.int .i64 m, .slice A n cap] 29)) (Nat.le_refl _)
  go_enter Try.func12, Try.ntmps12
  go_wp2_with (go_at_call 54; refine (markInt64S_c _ base A n cap xs hn k h0 hk ho1).mono ?_; rintro e w' ⟨rfl, ho2, hg⟩)
  go_ret
  exact ⟨rfl, ho2, grown_alloc hg⟩

end Go.Proofs.Ytopeidmafalklaa


namespace Go.Proofs.Ytopeidmafalklaa
open Go.RowKit

/-- a gain, up to the bits of a NaN -/
def gainO (g : Option Nat) (sends : List Bool) (soft : List Nat) : Nat → Option Nat
  | 0 => g
  | k + 1 => fop (if sends.getD k false then .add else .sub) .f32 (gainO g sends soft k) (fl .f32 (soft.getD k 0))


set_option maxRecDepth 100000 in
set_option maxHeartbeats 1000000 in
theorem impl_gain_c (w : World) (g B B2 : Nat) (A : Option Addr) (n cap : Nat) (bs : List Bool) (hl : bs.length = n) (hn : n ≤ 1048576) (hx : Sl w B A (bs.map Value.bool)) (A2 : Option Addr) (n2 cap2 : Nat) (xs : List Nat) (hl2 : xs.length = n2) (h2 : n ≤ n2) (hn2 : n2 ≤ 1048576) (hy : Sl w B2 A2 (xs.map (Value.float .f32))) :
    Calls Try.prog 62 #[.float .f32 g, .slice A n cap, .slice A2 n2 cap2] w fun e w' => ∃ v, e = .returned (.float .f32 v) ∧ fl .f32 v = gainO (fl .f32 g) bs xs n ∧ ∃ q, w' = w.drewN q := by
  go_enter Try.func62, Try.ntmps62
  go_wp2
  go_loopw [0, 11] (fun o i wr => ∃ k q v : Nat, k ≤ n ∧ i = .int .i64 k ∧ o = .float .f32 v ∧ fl .f32 v = gainO (fl .f32 g) bs xs k ∧ wr = w.drewN q) (fun _ i _ => n - (intOf i).toNat)
  case atStart => exact ⟨0, 0, g, Nat.zero_le _, rfl, rfl, rfl, rfl⟩
  case round =>
    obtain ⟨k, q, v, hk, rfl, rfl, hv, rfl⟩ := hrel
    have HV := Lib.hid hv
    clear hv
    by_cases hlt : k < n
    · obtain ⟨b, off, rfl, hbb, hc1⟩ := hx.get k (by omega)
      obtain ⟨b2, off2, rfl, hbb2, hc2⟩ := hy.get k (by omega)
      have hg : xs.getD k 0 = xs[k]'(by omega) := by simp [List.getD, show k < xs.length by omega]
      have hg2 : bs.getD k false = bs[k]'(by omega) := by simp [List.getD, show k < bs.length by omega]
      have hs : gainO (fl .f32 g) bs xs (k + 1) = fop (if bs[k]'(by omega) then .add else .sub) .f32 (gainO (fl .f32 g) bs xs k) (fl .f32 (xs[k]'(by omega))) := by rw [← hg, ← hg2]; rfl
      obtain ⟨y, hy1⟩ : ∃ y, xs[k]'(by omega) = y := ⟨_, rfl⟩
      obtain ⟨c, hc⟩ : ∃ c, bs[k]'(by omega) = c := ⟨_, rfl⟩
      rw [hy1, hc] at hs
      rw [hy1] at hc2
      rw [hc] at hc1
      have hk2 : (k : Int) < (n2 : Int) := by omega
      cases c
      · rw [if_neg (by decide)] at hs
        have HS := Lib.hid hs
        clear hs hg hg2 hy1 hc hx hy
        go_wp2
        go_roundw
        case rel => exact ⟨k + 1, _, _, by omega, by go_num, rfl, by rw [fl_fres, HV.out, HS.out], rfl⟩
        case measure => simp [intOf]; omega
      · rw [if_pos rfl] at hs
        have HS := Lib.hid hs
        clear hs hg hg2 hy1 hc hx hy
        go_wp2
        go_roundw
        case rel => exact ⟨k + 1, _, _, by omega, by go_num, rfl, by rw [fl_fres, HV.out, HS.out], rfl⟩
        case measure => simp [intOf]; omega
    · have : k = n := by omega
      subst this
      go_wp2
      go_ret
      exact ⟨_, rfl, HV.out, _, rfl⟩


set_option maxRecDepth 100000 in
set_option maxHeartbeats 1000000 in
theorem spec_l07Gain_c (w : World) (g B B2 : Nat) (A : Option Addr) (n cap : Nat) (bs : List Bool) (hl : bs.length = n) (hn : n ≤ 1048576) (hx : Sl w B A (bs.map Value.bool)) (A2 : Option Addr) (n2 cap2 : Nat) (xs : List Nat) (hl2 : xs.length = n2) (h2 : n ≤ n2) (hn2 : n2 ≤ 1048576) (hy : Sl w B2 A2 (xs.map (Value.float .f32))) :
    Calls Try.prog 75 #[.float .f32 g, .slice A2 n2 cap2, .slice A n cap] w fun e w' => ∃ v, e = .returned (.float .f32 v) ∧ fl .f32 v = gainO (fl .f32 g) bs xs n ∧ ∃ q, w' = w.drewN q := by
  go_enter Try.func75, Try.ntmps75
  go_wp2
  go_loopw [0, 10] (fun o i wr => ∃ k q v : Nat, k ≤ n ∧ i = .int .i64 k ∧ o = .float .f32 v ∧ fl .f32 v = gainO (fl .f32 g) bs xs k ∧ wr = w.drewN q) (fun _ i _ => n - (intOf i).toNat)
  case atStart => exact ⟨0, 0, g, Nat.zero_le _, rfl, rfl, rfl, rfl⟩
  case round =>
    obtain ⟨k, q, v, hk, rfl, rfl, hv, rfl⟩ := hrel
    have HV := Lib.hid hv
    clear hv
    by_cases hlt : k < n
    · obtain ⟨b, off, rfl, hbb, hc1⟩ := hx.get k (by omega)
      obtain ⟨b2, off2, rfl, hbb2, hc2⟩ := hy.get k (by omega)
      have hg : xs.getD k 0 = xs[k]'(by omega) := by simp [List.getD, show k < xs.length by omega]
      have hg2 : bs.getD k false = bs[k]'(by omega) := by simp [List.getD, show k < bs.length by omega]
      have hs : gainO (fl .f32 g) bs xs (k + 1) = fop (if bs[k]'(by omega) then .add else .sub) .f32 (gainO (fl .f32 g) bs xs k) (fl .f32 (xs[k]'(by omega))) := by rw [← hg, ← hg2]; rfl
      obtain ⟨y, hy1⟩ : ∃ y, xs[k]'(by omega) = y := ⟨_, rfl⟩
      obtain ⟨c, hc⟩ : ∃ c, bs[k]'(by omega) = c := ⟨_, rfl⟩
      rw [hy1, hc] at hs
      rw [hy1] at hc2
      rw [hc] at hc1
      have hk2 : (k : Int) < (n2 : Int) := by omega
      cases c
      · rw [if_neg (by decide)] at hs
        have HS := Lib.hid hs
        clear hs hg hg2 hy1 hc hx hy
        go_wp2
        go_roundw
        case rel => exact ⟨k + 1, _, _, by omega, by go_num, rfl, by rw [fl_fres, HV.out, HS.out], rfl⟩
        case measure => simp [intOf]; omega
      · rw [if_pos rfl] at hs
        have HS := Lib.hid hs
        clear hs hg hg2 hy1 hc hx hy
        go_wp2
        go_roundw
        case rel => exact ⟨k + 1, _, _, by omega, by go_num, rfl, by rw [fl_fres, HV.out, HS.out], rfl⟩
        case measure => simp [intOf]; omega
    · have : k = n := by omega
      subst this
      go_wp2
      go_ret
      exact ⟨_, rfl, HV.out, _, rfl⟩

end Go.Proofs.Ytopeidmafalklaa
