/-
  Contracts: rows of chances: finite, at least 0, nearly 1 altogether.
  Conditions: lengths at most 1048576.
-/
import Derived.Test.YtkhaiajeiiocmaaDoorVQ
namespace Go.Proofs.YtkhaiajeiiocmaaDoor
open Go.RowKit Ieee

def absV (x : Nat) : Nat := if lt0 x then Op.negFloat .f32 x else x
def nearO : Option Nat → Bool | none => false | some b => nearB2 b
theorem nan_of_fl {x : Nat} (h : fl .f32 x = none) : nanB .f32 x = true := by
  cases hn : nanB .f32 x
  · rw [fl_nn hn] at h; cases h
  · rfl
theorem leC_nan {x : Nat} (h : nanB .f32 x = true) : leC x = false := by unfold leC; rw [order_nan _ _ _ h]; rfl
theorem lt0_nan {x : Nat} (h : nanB .f32 x = true) : lt0 x = false := by unfold lt0; rw [order_nan _ _ _ h]; rfl
theorem near_valA (v : Nat) (t : Tape) (d : Nat) : leC (absV (fres .sub .f32 v 1065353216 t d)) = nearO (fl .f32 v) := by
  cases hn : nanB .f32 v
  · rw [fl_nn hn]
    obtain ⟨R, n1, n2, hR, h1, h2, h3⟩ := sub_words hn
    have e1 : fres .sub .f32 v 1065353216 t d = single.word n1 R := by
      unfold fres
      have : floatBits .sub .f32 v 1065353216 = some (single.word n1 R) := h1
      rw [this]
    rw [e1]
    show _ = nearB2 v
    rw [← near_same hn]
    unfold nearA
    rw [h1]
    rfl
  · have h1 : nanB .f32 (fres .sub .f32 v 1065353216 t d) = true := nan_of_fl (by rw [fl_fres, fl_nan hn]; rfl)
    unfold absV
    rw [lt0_nan h1, fl_nan hn]
    exact leC_nan h1
theorem near_valB (v : Nat) (t t' : Tape) (d d' : Nat) : (leC (fres .sub .f32 v 1065353216 t d) && leC (fres .sub .f32 1065353216 v t' d')) = nearO (fl .f32 v) := by
  cases hn : nanB .f32 v
  · rw [fl_nn hn]
    obtain ⟨R, n1, n2, hR, h1, h2, h3⟩ := sub_words hn
    have e1 : fres .sub .f32 v 1065353216 t d = single.word n1 R := by
      unfold fres
      have : floatBits .sub .f32 v 1065353216 = some (single.word n1 R) := h1
      rw [this]
    have e2 : fres .sub .f32 1065353216 v t' d' = single.word n2 R := by
      unfold fres
      have : floatBits .sub .f32 1065353216 v = some (single.word n2 R) := h2
      rw [this]
    rw [e1, e2]
    show _ = nearB2 v
    unfold nearB2
    rw [h1, h2]
  · have h1 : nanB .f32 (fres .sub .f32 v 1065353216 t d) = true := nan_of_fl (by rw [fl_fres, fl_nan hn]; rfl)
    rw [fl_nan hn, leC_nan h1]
    rfl
def geZ (x : Nat) : Bool := FloatKind.f32.format.order x 0 == some .gt || FloatKind.f32.format.order x 0 == some .eq
def leastB (x : Nat) : Bool := finB (fl .f32 x) && geZ x
def oneB (xs : List Nat) : Bool := (xs.all leastB) && nearO (sumO xs xs.length)
def rowB (xs : List Nat) : Bool := (decide (1 ≤ xs.length) && decide (xs.length ≤ 32)) && oneB xs


theorem impl_absolute_c (w : World) (x : Nat) : Calls Tryd.prog 44 #[.float .f32 x] w fun e w' => e = .returned (.float .f32 (absV x)) ∧ w = w' := by
  by_cases h : FloatKind.f32.format.order x 0 = some .lt
  · have e1 : absV x = Op.negFloat .f32 x := by unfold absV lt0; rw [h]; rfl
    rw [e1]
    go_enter Tryd.func44, Tryd.ntmps44
    go_wp2
    go_ret
    exact ⟨rfl, rfl⟩
  · have e1 : absV x = x := by unfold absV lt0; rw [if_neg (by simpa using h)]
    have hb : (FloatKind.f32.format.order x 0 == some Ordering.lt) = false := by simpa using h
    rw [e1]
    go_enter Tryd.func44, Tryd.ntmps44
    go_wp2
    go_ret
    exact ⟨rfl, rfl⟩


set_option maxHeartbeats 1000000 in
theorem spec_l02Least_c (w : World) (x : Nat) : Calls Tryd.prog 57 #[.float .f32 x] w fun e w' => e = .returned (.bool (leastB x)) ∧ ∃ q, w' = w.drewN q := by
  cases hf : finB (fl .f32 x)
  · have e1 : leastB x = false := by unfold leastB; rw [hf]; rfl
    have HF := Lib.hid hf
    rw [e1]
    clear hf e1
    go_enter Tryd.func57, Tryd.ntmps57
    go_wp2_with (go_at_call 64; refine (spec_l01Finite_c _ x).mono ?_; rintro e w' ⟨rfl, q, rfl⟩; rw [HF.out])
    go_ret
    exact ⟨rfl, _, rfl⟩
  · have e1 : leastB x = geZ x := by unfold leastB; rw [hf]; rfl
    have HF := Lib.hid hf
    rw [e1]
    clear hf e1
    go_enter Tryd.func57, Tryd.ntmps57
    go_wp2_with (go_at_call 64; refine (spec_l01Finite_c _ x).mono ?_; rintro e w' ⟨rfl, q, rfl⟩; rw [HF.out])
    go_ret
    exact ⟨rfl, _, rfl⟩


theorem one_no {xs : List Nat} {k : Nat} (hk : k < xs.length) (h : leastB (xs[k]'hk) = false) : oneB xs = false := by
  unfold oneB
  rw [all_not leastB xs k hk h]
  rfl
set_option maxRecDepth 100000 in
set_option maxHeartbeats 1000000 in
theorem spec_l02Chances_c (w : World) (B : Nat) (A : Option Addr) (n cap : Nat) (xs : List Nat) (hl : xs.length = n) (hn : n ≤ 1048576) (hx : Sl w B A (xs.map (Value.float .f32))) :
    Calls Tryd.prog 37 #[.slice A n cap] w fun e w' => e = .returned (.bool (oneB xs)) ∧ ∃ q, w' = w.drewN q := by
  go_enter Tryd.func37, Tryd.ntmps37
  go_wp2
  go_loopw [3] (fun i wr => ∃ k q : Nat, k ≤ n ∧ i = .int .i64 k ∧ (xs.take k).all leastB = true ∧ wr = w.drewN q) (fun i _ => n - (intOf i).toNat)
  case atStart => exact ⟨0, 0, Nat.zero_le _, rfl, rfl, rfl⟩
  case round =>
    obtain ⟨k, q, hk, rfl, hp, rfl⟩ := hrel
    have HP := Lib.hid hp
    clear hp
    by_cases hlt : k < n
    · obtain ⟨b, off, rfl, hbb, hc1⟩ := hx.get k (by omega)
      cases hf : leastB (xs[k]'(by omega))
      · have HF := Lib.hid hf
        clear hf
        go_wp2_with (go_at_call 57; refine (spec_l02Least_c _ _).mono ?_; rintro e w' ⟨rfl, q2, rfl⟩; rw [HF.out])
        go_ret
        exact ⟨ret_bool (one_no (by omega) HF.out).symm, _, rfl⟩
      · have HF := Lib.hid hf
        clear hf
        go_wp2_with (go_at_call 57; refine (spec_l02Least_c _ _).mono ?_; rintro e w' ⟨rfl, q2, rfl⟩; rw [HF.out])
        go_roundw
        case rel => exact ⟨k + 1, _, by omega, by go_num, all_snoc leastB xs k (by omega) HP.out HF.out, rfl⟩
        case measure => simp [intOf]; omega
    · have : k = n := by omega
      subst this
      have hall : xs.all leastB = true := by rw [take_all hl] at HP; exact HP.out
      have e1 : oneB xs = nearO (sumO xs k) := by unfold oneB; rw [hall, hl]; rfl
      have HE := Lib.hid e1
      clear hall HP e1
      go_wp2_with fail
      refine (spec_l02Sum_c (w.drewN q) B A k cap xs hl hn hx).mono ?_
      rintro e w2 ⟨v, rfl, hv, q2, rfl⟩
      have HV := Lib.hid hv
      clear hv
      go_wp2_with fail
      · go_ret
        exact ⟨ret_bool (by rw [HE.out, ← HV.out, ← near_valB v w.tape w.tape (w.drewN (q + q2)).drawn (w.drewN (q + q2 + fdr BinOp.sub FloatKind.f32 v 1065353216)).drawn]; rfl), _, rfl⟩
      · go_ret
        exact ⟨ret_bool (by
          rename_i hfst
          rw [HE.out, ← HV.out, ← near_valB v w.tape w.tape (w.drewN (q + q2)).drawn 0]
          have h5 : leC (fres BinOp.sub FloatKind.f32 v 1065353216 w.tape (w.drewN (q + q2)).drawn) = false := by
            unfold leC
            first | exact hfst | (simpa using hfst)
          rw [h5]; rfl), _, rfl⟩


theorem geZ_yes {x : Nat} (h : geZ x = true) : (FloatKind.f32.format.order x 0 == some Ordering.gt || FloatKind.f32.format.order x 0 == some Ordering.eq) = true := h
theorem geZ_no {x : Nat} (h : geZ x = false) : (FloatKind.f32.format.order x 0 == some Ordering.gt || FloatKind.f32.format.order x 0 == some Ordering.eq) = false := h
set_option maxRecDepth 100000 in
set_option maxHeartbeats 1000000 in
theorem impl_isOne_c (w : World) (B : Nat) (A : Option Addr) (n cap : Nat) (xs : List Nat) (hl : xs.length = n) (hn : n ≤ 1048576) (hx : Sl w B A (xs.map (Value.float .f32))) :
    Calls Tryd.prog 29 #[.slice A n cap] w fun e w' => e = .returned (.bool (oneB xs)) ∧ ∃ q, w' = w.drewN q := by
  go_enter Tryd.func29, Tryd.ntmps29
  go_wp2
  go_loopw [7] (fun i wr => ∃ k q : Nat, k ≤ n ∧ i = .int .i64 k ∧ (xs.take k).all leastB = true ∧ wr = w.drewN q) (fun i _ => n - (intOf i).toNat)
  case atStart => exact ⟨0, 0, Nat.zero_le _, rfl, rfl, rfl⟩
  case round =>
    obtain ⟨k, q, hk, rfl, hp, rfl⟩ := hrel
    have HP := Lib.hid hp
    clear hp
    by_cases hlt : k < n
    · obtain ⟨b, off, rfl, hbb, hc1⟩ := hx.get k (by omega)
      obtain ⟨y, hy⟩ : ∃ y, xs[k]'(by omega) = y := ⟨_, rfl⟩
      rw [hy] at hc1
      have HY := Lib.hid hy
      clear hy
      cases hf : finB (fl .f32 y)
      · have HF := Lib.hid hf
        clear hf
        go_wp2_with (go_at_call 43; refine (impl_IsFinite_c _ _).mono ?_; rintro e w' ⟨rfl, q2, rfl⟩; rw [HF.out])
        go_ret
        exact ⟨ret_bool (one_no (k := k) (by omega) (by rw [HY.out]; unfold leastB; rw [HF.out]; rfl)).symm, _, rfl⟩
      · have HF := Lib.hid hf
        clear hf
        cases hg : geZ y
        · have hg2 := geZ_no hg
          have HG := Lib.hid hg
          clear hg
          go_wp2_with (go_at_call 43; refine (impl_IsFinite_c _ _).mono ?_; rintro e w' ⟨rfl, q2, rfl⟩; rw [HF.out])
          go_ret
          exact ⟨ret_bool (one_no (k := k) (by omega) (by rw [HY.out]; unfold leastB; rw [HF.out, HG.out]; rfl)).symm, _, rfl⟩
        · have hg2 := geZ_yes hg
          have HG := Lib.hid hg
          clear hg
          go_wp2_with (go_at_call 43; refine (impl_IsFinite_c _ _).mono ?_; rintro e w' ⟨rfl, q2, rfl⟩; rw [HF.out])
          go_roundw
          case rel => exact ⟨k + 1, _, by omega, by go_num, all_snoc leastB xs k (by omega) HP.out (by rw [HY.out]; unfold leastB; rw [HF.out, HG.out]; rfl), rfl⟩
          case measure => simp [intOf]; omega
    · have : k = n := by omega
      subst this
      have hall : xs.all leastB = true := by rw [take_all hl] at HP; exact HP.out
      have e1 : oneB xs = nearO (sumO xs k) := by unfold oneB; rw [hall, hl]; rfl
      have HE := Lib.hid e1
      clear hall HP e1
      go_wp2_with fail
      refine (impl_addUp_c (w.drewN q) B A k cap xs hl hn hx).mono ?_
      rintro e w2 ⟨v, rfl, hv, q2, rfl⟩
      have HV := Lib.hid hv
      clear hv
      go_wp2_with (go_at_call 44; refine (impl_absolute_c _ _).mono ?_; rintro e w' ⟨rfl, rfl⟩)
      go_ret
      exact ⟨ret_bool (by rw [HE.out, ← HV.out, ← near_valA v w.tape (w.drewN (q + q2)).drawn]; rfl), _, rfl⟩


theorem impl_IsRow_c (w : World) (B : Nat) (A : Option Addr) (n cap : Nat) (xs : List Nat) (hl : xs.length = n) (hn : n ≤ 1048576) (hx : Sl w B A (xs.map (Value.float .f32))) :
    Calls Tryd.prog 16 #[.slice A n cap] w fun e w' => e = .returned (.bool (rowB xs)) ∧ ∃ q, w' = w.drewN q := by
  by_cases h1 : 1 ≤ n
  · by_cases h2 : n ≤ 32
    · have e1 : rowB xs = oneB xs := by unfold rowB; rw [hl, decide_eq_true h1, decide_eq_true h2]; rfl
      rw [e1]
      clear e1
      obtain ⟨q, hq⟩ : ∃ q, oneB xs = q := ⟨_, rfl⟩
      rw [hq]
      have HQ := Lib.hid hq
      clear hq
      go_enter Tryd.func16, Tryd.ntmps16
      go_wp2_with (go_at_call 29; refine (impl_isOne_c w B A n cap xs hl hn hx).mono ?_; rintro e w' ⟨rfl, q2, rfl⟩; rw [HQ.out])
      go_ret
      exact ⟨rfl, _, rfl⟩
    · have e1 : rowB xs = false := by unfold rowB; rw [hl]; simp [h2]
      rw [e1]
      go_enter Tryd.func16, Tryd.ntmps16
      go_wp2
      go_ret
      exact ⟨rfl, 0, rfl⟩
  · have e1 : rowB xs = false := by unfold rowB; rw [hl]; simp [h1]
    rw [e1]
    go_enter Tryd.func16, Tryd.ntmps16
    go_wp2
    go_ret
    exact ⟨rfl, 0, rfl⟩


theorem spec_l02Row_c (w : World) (B : Nat) (A : Option Addr) (n cap : Nat) (xs : List Nat) (hl : xs.length = n) (hn : n ≤ 1048576) (hx : Sl w B A (xs.map (Value.float .f32))) :
    Calls Tryd.prog 24 #[.slice A n cap] w fun e w' => e = .returned (.bool (rowB xs)) ∧ ∃ q, w' = w.drewN q := by
  by_cases h1 : 1 ≤ n
  · by_cases h2 : n ≤ 32
    · have e1 : rowB xs = oneB xs := by unfold rowB; rw [hl, decide_eq_true h1, decide_eq_true h2]; rfl
      rw [e1]
      clear e1
      obtain ⟨q, hq⟩ : ∃ q, oneB xs = q := ⟨_, rfl⟩
      rw [hq]
      have HQ := Lib.hid hq
      clear hq
      go_enter Tryd.func24, Tryd.ntmps24
      go_wp2_with (go_at_call 37; refine (spec_l02Chances_c w B A n cap xs hl hn hx).mono ?_; rintro e w' ⟨rfl, q2, rfl⟩; rw [HQ.out])
      go_ret
      exact ⟨rfl, _, rfl⟩
    · have e1 : rowB xs = false := by unfold rowB; rw [hl]; simp [h2]
      rw [e1]
      go_enter Tryd.func24, Tryd.ntmps24
      go_wp2
      go_ret
      exact ⟨rfl, 0, rfl⟩
  · have e1 : rowB xs = false := by unfold rowB; rw [hl]; simp [h1]
    rw [e1]
    go_enter Tryd.func24, Tryd.ntmps24
    go_wp2
    go_ret
    exact ⟨rfl, 0, rfl⟩

end Go.Proofs.YtkhaiajeiiocmaaDoor
