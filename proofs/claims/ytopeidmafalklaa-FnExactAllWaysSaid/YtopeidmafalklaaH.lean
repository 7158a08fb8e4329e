/-
  Contracts of the laws' helpers: copies, comparisons, marks.
  Conditions: lengths at most 1048576 where memory is made; marks are small numbers.
-/
import Derived.Test.YtopeidmafalklaaR
namespace Go.Proofs.Ytopeidmafalklaa
open Go.RowKit

def marks (f : Int → Value) (k : Int) (n : Nat) : List Value := (List.range n).map fun i : Nat => f (k + (i : Int))
theorem marks_length (f : Int → Value) (k : Int) (n : Nat) : (marks f k n).length = n := by simp [marks]
theorem marks_get (f : Int → Value) (k : Int) (n i : Nat) (h : i < n) : (marks f k n)[i]? = some (f (k + (i : Int))) := by simp [marks, h]
theorem marks_snoc (f : Int → Value) (k : Int) (n : Nat) : marks f k (n + 1) = marks f k n ++ [f (k + (n : Int))] := by simp [marks, List.range_succ]
theorem marks_set (f : Int → Value) (k : Int) (xs : List Value) (n i : Nat) (hl : xs.length = n) (h : i < n) : (marks f k i ++ xs.drop i).set i (f (k + (i : Int))) = marks f k (i + 1) ++ xs.drop (i + 1) := by
  rw [marks_snoc, List.set_append_right _ _ (by rw [marks_length]; exact Nat.le_refl _), List.append_assoc]
  congr 1
  rw [marks_length, Nat.sub_self, List.drop_eq_getElem_cons (by omega)]
  rfl

theorem only_setCell {a w : World} {g : Nat} (h : a.grownBy w (some g)) {p : Addr} (hp : p.block = g) (u : Value) : a.grownBy (w.setCell p u) (some g) :=
  ⟨h.os, h.tape, h.output, by simpa [World.setCell] using h.size, fun i hi hne => (Below.heap_setCell w p u i (by
    rintro rfl
    exact hne (by rw [hp]))).trans (h.block i hi hne)⟩


theorem infoInt64 : (Try.prog.info? 2).map (fun i => (i.zero, i.size, i.bytes)) = some (some (.int .i64 0), 1, 8) := by kernel_rfl


theorem infoBool : (Try.prog.info? 4).map (fun i => (i.zero, i.size, i.bytes)) = some (some (.bool false), 1, 1) := by kernel_rfl


theorem infoFloat32 : (Try.prog.info? 46).map (fun i => (i.zero, i.size, i.bytes)) = some (some (.float .f32 0), 1, 4) := by kernel_rfl


set_option maxHeartbeats 400000 in
theorem toInt64S_c (w : World) (A : Option Addr) (n cap : Nat) (xs : List Int) (hl : xs.length = n) (hn : n ≤ 1048576) (hx : Sl w w.heap.size A (xs.map (Value.int .i64))) :
    Calls Try.prog 41 #[.slice A n cap] w fun e w' => ∃ v, e = .returned v ∧ Ow w' w.heap.size 2 v (xs.map (Value.int .i64)) ∧ Below w.heap.size w w' := by
  obtain ⟨i0, hi, hz0, hz1, hz2⟩ := info_parts infoInt64
  obtain ⟨w1, hmk, hown, hgr⟩ := run_make_full (P := Try.prog) w w.heap.size 22 2 i0 (.int .i64 0) 1 Try.underlying22 hi hz0 hz1 .i64 .i64 n (by rw [hz2]; omega) (by unfold maxLen; omega) (Nat.le_refl _)
  have hb1 : Below w.heap.size w w1 := (Below.refl _ _).grown hgr (Nat.le_refl _) (by simp)
  go_enter Try.func41, Try.ntmps41
  go_wp2
  clear hgr hmk
  go_loopw [4] (fun i wr => ∃ k : Nat, k ≤ n ∧ i = .int .i64 k ∧ wr.ownsRow w.heap.size 2 1 (.slice (some ⟨w.heap.size, 0, none⟩) n n) n ((xs.take k ++ List.replicate (n-k) 0).map (Value.int .i64)) ∧ Below w.heap.size w wr) (fun i _ => n - (intOf i).toNat)
  case atStart =>
    refine ⟨0, Nat.zero_le _, rfl, ?_, hb1⟩
    simpa [Value.cells, toList_madeCells_one] using hown
  case round =>
    clear hown hb1
    obtain ⟨k, hk, rfl, ho, hb⟩ := hrel
    by_cases hlt : k < n
    · obtain ⟨b, off, rfl, hbb, hc1⟩ := (hx.below hb).get k (by omega)
      have hs := ho.stored k ((Value.int .i64) (xs[k]'(by omega)))
      have hc2 := ho.cellAt k (by omega)
      have hf := ho.frozenAt k
      go_wp2
      go_roundw
      case rel =>
        refine ⟨k+1, by omega, by go_num, ?_, hb.setCell (p := ⟨w.heap.size, k, none⟩) (Nat.le_refl _) _⟩
        have h1 := hs.1
        rw [← List.map_set, fill_set xs 0 n k hl hlt] at h1
        exact h1
      case measure => simp [intOf]; omega
    · have : k = n := by omega
      subst this
      go_wp2
      go_ret
      refine ⟨_, rfl, ?_, hb⟩
      unfold Ow
      simpa [take_all hl, hl] using ho


set_option maxHeartbeats 400000 in
theorem eqInt64S_t (w : World) (A B : Option Addr) (n cap cap' b1 b2 : Nat) (xs : List Int) (hl : xs.length = n) (hn : n ≤ 1099511627776) (hx : Sl w b1 A (xs.map (Value.int .i64))) (hy : Sl w b2 B (xs.map (Value.int .i64))) :
    Calls Try.prog 53 #[.slice A n cap, .slice B n cap'] w fun e w' => e = .returned (.bool true) ∧ ∃ n, w' = w.drewN n := by
  go_enter Try.func53, Try.ntmps53
  go_wp2
  go_loopw [5] (fun i wr => ∃ k m : Nat, k ≤ n ∧ i = .int .i64 k ∧ wr = w.drewN m) (fun i _ => n - (intOf i).toNat)
  case atStart => exact ⟨0, 0, Nat.zero_le _, rfl, rfl⟩
  case round =>
    obtain ⟨k, m, hk, rfl, rfl⟩ := hrel
    by_cases hlt : k < n
    · obtain ⟨b, off, rfl, hbb, hc1⟩ := hx.get k (by omega)
      obtain ⟨b', off', rfl, hbb', hc2⟩ := hy.get k (by omega)
      clear hx hy
      go_wp2
      go_quiet (fail)
      go_wp2
      go_roundw
      case rel => exact ⟨k+1, _, by omega, by go_num, rfl⟩
      case measure => simp [intOf]; omega
    · have : k = n := by omega
      subst this
      go_wp2
      go_ret
      exact ⟨rfl, _, rfl⟩


set_option maxHeartbeats 400000 in
theorem markInt64S_c (w : World) (base : Nat) (A : Option Addr) (n cap : Nat) (xs : List Value) (hn : n ≤ 1099511627776) (k : Int) (h0 : 0 ≤ k) (hk : k ≤ 1099511627776) (ho : w.ownsRow base 2 1 (.slice A n cap) n xs) :
    Calls Try.prog 54 #[.slice A n cap, .int .i64 k] w fun e w' => e = .returned (.int .i64 (k + n)) ∧ w'.ownsRow base 2 1 (.slice A n cap) n (marks (fun q => .int .i64 q) k n) ∧ w.grownBy w' (Value.slice A n cap).ownBlock := by
  have hl : xs.length = n := by simpa using ho.1
  go_enter Try.func54, Try.ntmps54
  go_wp2
  go_loopw [1, 5] (fun q i wr => ∃ j : Nat, j ≤ n ∧ i = .int .i64 j ∧ q = .int .i64 (k + j) ∧ wr.ownsRow base 2 1 (.slice A n cap) n (marks (fun q => .int .i64 q) k j ++ xs.drop j) ∧ w.grownBy wr (Value.slice A n cap).ownBlock) (fun _ i _ => n - (intOf i).toNat)
  case atStart => exact ⟨0, Nat.zero_le _, rfl, by simp, by simpa [marks] using ho, World.grownBy.refl _ _⟩
  case round =>
    clear ho
    obtain ⟨j, hj, rfl, rfl, ho, hg⟩ := hrel
    by_cases hlt : j < n
    · obtain ⟨g, cap', hv, hbg, hgs⟩ := ho.form (by omega)
      injection hv with hv
      subst hv
      have hc := ho.cellAt j (by omega)
      have hf := ho.frozenAt j
      have hs := ho.stored j ((fun q => .int .i64 q) (k + (j : Int)))
      have hcell : ∃ u, wr.cell? ⟨g, j, none⟩ = some u := by
        rw [hc, List.getElem?_append_right (by rw [marks_length]; omega), marks_length, Nat.sub_self, List.getElem?_drop]
        exact ⟨_, List.getElem?_eq_getElem (by omega)⟩
      obtain ⟨u, hcu⟩ := hcell
      have HS := Lib.hid hs
      clear hc hs ho
      go_wp2
      try go_quiet (fail)
      go_wp2
      go_roundw
      case rel =>
        refine ⟨j + 1, by omega, by go_num, by go_num, ?_, only_setCell (p := ⟨g, j, none⟩) hg rfl _⟩
        have h1 := HS.out.1
        rw [marks_set _ _ _ n j hl hlt] at h1
        exact h1
      case measure => simp [intOf]; omega
    · have : j = n := by omega
      subst this
      go_wp2
      go_ret
      exact ⟨rfl, by simpa [List.drop_of_length_le (Nat.le_of_eq hl)] using ho, hg⟩







set_option maxHeartbeats 400000 in
theorem toFloat32S_c (w : World) (A : Option Addr) (n cap : Nat) (xs : List Nat) (hl : xs.length = n) (hn : n ≤ 1048576) (hx : Sl w w.heap.size A (xs.map (Value.float .f32))) :
    Calls Try.prog 8 #[.slice A n cap] w fun e w' => ∃ v, e = .returned v ∧ Ow w' w.heap.size 46 v (xs.map (Value.float .f32)) ∧ Below w.heap.size w w' := by
  obtain ⟨i0, hi, hz0, hz1, hz2⟩ := info_parts infoFloat32
  obtain ⟨w1, hmk, hown, hgr⟩ := run_make_full (P := Try.prog) w w.heap.size 25 46 i0 (.float .f32 0) 1 Try.underlying25 hi hz0 hz1 .i64 .i64 n (by rw [hz2]; omega) (by unfold maxLen; omega) (Nat.le_refl _)
  have hb1 : Below w.heap.size w w1 := (Below.refl _ _).grown hgr (Nat.le_refl _) (by simp)
  go_enter Try.func8, Try.ntmps8
  go_wp2
  clear hgr hmk
  go_loopw [4] (fun i wr => ∃ k : Nat, k ≤ n ∧ i = .int .i64 k ∧ wr.ownsRow w.heap.size 46 1 (.slice (some ⟨w.heap.size, 0, none⟩) n n) n ((xs.take k ++ List.replicate (n-k) 0).map (Value.float .f32)) ∧ Below w.heap.size w wr) (fun i _ => n - (intOf i).toNat)
  case atStart =>
    refine ⟨0, Nat.zero_le _, rfl, ?_, hb1⟩
    simpa [Value.cells, toList_madeCells_one] using hown
  case round =>
    clear hown hb1
    obtain ⟨k, hk, rfl, ho, hb⟩ := hrel
    by_cases hlt : k < n
    · obtain ⟨b, off, rfl, hbb, hc1⟩ := (hx.below hb).get k (by omega)
      have hs := ho.stored k ((Value.float .f32) (xs[k]'(by omega)))
      have hc2 := ho.cellAt k (by omega)
      have hf := ho.frozenAt k
      go_wp2
      go_roundw
      case rel =>
        refine ⟨k+1, by omega, by go_num, ?_, hb.setCell (p := ⟨w.heap.size, k, none⟩) (Nat.le_refl _) _⟩
        have h1 := hs.1
        rw [← List.map_set, fill_set xs 0 n k hl hlt] at h1
        exact h1
      case measure => simp [intOf]; omega
    · have : k = n := by omega
      subst this
      go_wp2
      go_ret
      refine ⟨_, rfl, ?_, hb⟩
      unfold Ow
      simpa [take_all hl, hl] using ho


theorem one64 : floatBits .quo .f64 4607182418800017408 0 = some 9218868437227405312 := by decide +kernel

set_option maxHeartbeats 400000 in
/-- numbers that are one but for the bits of a NaN are the same -/
theorem sameFloat_t (w : World) (x y : Nat) (h : fl .f64 x = fl .f64 y) :
    Calls Try.prog 52 #[.float .f64 x, .float .f64 y] w fun e w' => e = .returned (.bool true) ∧ ∃ n, w' = w.drewN n := by
  by_cases hn : nanB .f64 x = true
  · have hm : nanB .f64 y = true := by
      rcases hy : nanB .f64 y with _ | _
      · rw [fl_nan hn, fl_nn hy] at h; cases h
      · rfl
    have hxx := order_nan .f64 x x hn
    have hyy := order_nan .f64 y y hm
    clear h
    go_enter Try.func52, Try.ntmps52
    go_wp2
    go_ret
    exact ⟨rfl, 0, rfl⟩
  · have hn' : nanB .f64 x = false := by simpa using hn
    have hxy : x = y := by
      rcases hy : nanB .f64 y with _ | _
      · rw [fl_nn hn', fl_nn hy] at h; injection h
      · rw [fl_nn hn', fl_nan hy] at h; cases h
    subst hxy
    have hxx := order_self .f64 x hn'
    by_cases hz : (FloatKind.f64.format.order x 0 == some Ordering.eq) = true
    · go_enter Try.func52, Try.ntmps52
      go_wp2
      go_ret
      refine ⟨ret_bool ?_, _, rfl⟩
      show ((FloatKind.f64.format.order _ _ == _) == (FloatKind.f64.format.order _ _ == _)) = true
      rw [order_fl, order_fl, fl_fres, fl_fres]
      simp
    · have hz' : (FloatKind.f64.format.order x 0 == some Ordering.eq) = false := by simpa using hz
      clear hz
      go_enter Try.func52, Try.ntmps52
      go_wp2
      go_ret
      exact ⟨rfl, 0, rfl⟩


set_option maxRecDepth 100000 in
set_option maxHeartbeats 400000 in
theorem eqFloat32S_t (w : World) (A B : Option Addr) (n cap cap' b1 b2 : Nat) (xs ys : List Nat) (hl : xs.length = n) (hn : n ≤ 1099511627776) (he : xs.map (fl .f32) = ys.map (fl .f32))
    (hx : Sl w b1 A (xs.map (Value.float .f32))) (hy : Sl w b2 B (ys.map (Value.float .f32))) :
    Calls Try.prog 10 #[.slice A n cap, .slice B n cap'] w fun e w' => e = .returned (.bool true) ∧ ∃ n, w' = w.drewN n := by
  have hl2 : ys.length = n := by have := congrArg List.length he; simp at this; omega
  go_enter Try.func10, Try.ntmps10
  go_wp2
  go_loopw [5] (fun i wr => ∃ k m : Nat, k ≤ n ∧ i = .int .i64 k ∧ wr = w.drewN m) (fun i _ => n - (intOf i).toNat)
  case atStart => exact ⟨0, 0, Nat.zero_le _, rfl, rfl⟩
  case round =>
    obtain ⟨k, m, hk, rfl, rfl⟩ := hrel
    by_cases hlt : k < n
    · obtain ⟨b, off, rfl, hbb, hc1⟩ := hx.get k (by omega)
      obtain ⟨b', off', rfl, hbb', hc2⟩ := hy.get k (by omega)
      have hf : fl .f32 (xs[k]'(by omega)) = fl .f32 (ys[k]'(by omega)) := by
        have := congrArg (fun l : List (Option Nat) => l[k]?) he
        simpa [hl, hl2, hlt] using this
      have HF := Lib.hid hf
      clear hx hy he hf
      go_wp2_with fail
      refine wp_region_rel_lit (fun f args v => v = .bool true) (by kernel_rfl) (by kernel_rfl) ?_
      iterate 10 (refine wpRel_step (fun K hK => ?_); go_simp; (try intro n1); refine hK _ ?_; clear hK K)
      refine wpRel_step (fun K hK => ?_)
      go_simp
      intro n2
      refine ⟨calls_rel ((sameFloat_t _ _ _ (by rw [fl_widen, fl_widen, HF.out])).mono fun e w' ⟨he, hw⟩ => ⟨⟨_, he, rfl⟩, hw⟩), hK _ ?_⟩
      clear hK K
      iterate 1 (refine wpRel_step (fun K hK => ?_); go_simp; (try intro n1); refine hK _ ?_; clear hK K)
      refine wpRel_nil ?_
      intro nq
      go_wp2
      go_roundw
      case rel => exact ⟨k+1, _, by omega, by go_num, rfl⟩
      case measure => simp [intOf]; omega
    · have : k = n := by omega
      subst this
      go_wp2
      go_ret
      exact ⟨rfl, _, rfl⟩


set_option maxHeartbeats 400000 in
theorem markFloat32S_c (w : World) (base : Nat) (A : Option Addr) (n cap : Nat) (xs : List Value) (hn : n ≤ 1099511627776) (k : Int) (h0 : 0 ≤ k) (hk : k ≤ 1099511627776) (ho : w.ownsRow base 46 1 (.slice A n cap) n xs) :
    Calls Try.prog 13 #[.slice A n cap, .int .i64 k] w fun e w' => e = .returned (.int .i64 (k + n)) ∧ w'.ownsRow base 46 1 (.slice A n cap) n (marks (fun q => .float .f32 (floatOfInt .f32 q)) k n) ∧ w.grownBy w' (Value.slice A n cap).ownBlock := by
  have hl : xs.length = n := by simpa using ho.1
  go_enter Try.func13, Try.ntmps13
  go_wp2
  go_loopw [1, 5] (fun q i wr => ∃ j : Nat, j ≤ n ∧ i = .int .i64 j ∧ q = .int .i64 (k + j) ∧ wr.ownsRow base 46 1 (.slice A n cap) n (marks (fun q => .float .f32 (floatOfInt .f32 q)) k j ++ xs.drop j) ∧ w.grownBy wr (Value.slice A n cap).ownBlock) (fun _ i _ => n - (intOf i).toNat)
  case atStart => exact ⟨0, Nat.zero_le _, rfl, by simp, by simpa [marks] using ho, World.grownBy.refl _ _⟩
  case round =>
    clear ho
    obtain ⟨j, hj, rfl, rfl, ho, hg⟩ := hrel
    by_cases hlt : j < n
    · obtain ⟨g, cap', hv, hbg, hgs⟩ := ho.form (by omega)
      injection hv with hv
      subst hv
      have hc := ho.cellAt j (by omega)
      have hf := ho.frozenAt j
      have hs := ho.stored j ((fun q => .float .f32 (floatOfInt .f32 q)) (k + (j : Int)))
      have hcell : ∃ u, wr.cell? ⟨g, j, none⟩ = some u := by
        rw [hc, List.getElem?_append_right (by rw [marks_length]; omega), marks_length, Nat.sub_self, List.getElem?_drop]
        exact ⟨_, List.getElem?_eq_getElem (by omega)⟩
      obtain ⟨u, hcu⟩ := hcell
      have HS := Lib.hid hs
      clear hc hs ho
      go_wp2
      try go_quiet (fail)
      go_wp2
      go_roundw
      case rel =>
        refine ⟨j + 1, by omega, by go_num, by go_num, ?_, only_setCell (p := ⟨g, j, none⟩) hg rfl _⟩
        have h1 := HS.out.1
        rw [marks_set _ _ _ n j hl hlt] at h1
        exact h1
      case measure => simp [intOf]; omega
    · have : j = n := by omega
      subst this
      go_wp2
      go_ret
      exact ⟨rfl, by simpa [List.drop_of_length_le (Nat.le_of_eq hl)] using ho, hg⟩


set_option maxHeartbeats 400000 in
theorem heldFloat32S_c (w : World) (b1 : Nat) (A : Option Addr) (n cap : Nat) (hn : n ≤ 1099511627776) (k : Int) (h0 : 0 ≤ k) (hk : k ≤ 1099511627776) (hx : Sl w b1 A (marks (fun q => .float .f32 (floatOfInt .f32 q)) k n)) :
    Calls Try.prog 14 #[.slice A n cap, .int .i64 k] w fun e w' => e = .returned (.int .i64 (k + n)) ∧ ∃ m, w' = w.drewN m := by
  go_enter Try.func14, Try.ntmps14
  go_wp2
  go_loopw [1, 5] (fun q i wr => ∃ j m : Nat, j ≤ n ∧ i = .int .i64 j ∧ q = .int .i64 (k + j) ∧ wr = w.drewN m) (fun _ i _ => n - (intOf i).toNat)
  case atStart => exact ⟨0, 0, Nat.zero_le _, rfl, by simp, rfl⟩
  case round =>
    obtain ⟨j, m, hj, rfl, rfl, rfl⟩ := hrel
    by_cases hlt : j < n
    · obtain ⟨b, off, rfl, hbb, hc⟩ := hx.at_ (k := j) (by rw [marks_length]; exact hlt)
      have hc1 := hc j _ (marks_get _ k n j hlt)
      clear hc hx
      have ho := order_self .f32 (floatOfInt .f32 (k + (j : Int))) (nanB_write .f32 (.number (k + (j : Int) < 0) (k + (j : Int)).natAbs 0) rfl)
      go_wp2
      try go_quiet (fail)
      go_wp2
      go_roundw
      case rel => exact ⟨j + 1, _, by omega, by go_num, by go_num, rfl⟩
      case measure => simp [intOf]; omega
    · have : j = n := by omega
      subst this
      go_wp2
      go_ret
      exact ⟨rfl, _, rfl⟩

end Go.Proofs.Ytopeidmafalklaa
