/-
  Contracts: finite numbers, and the library's searches.
  Conditions: slices are read in memory that is there.
-/
import Derived.Test.YtopeidmafalklaaR
namespace Go.Proofs.Ytopeidmafalklaa
open Go.RowKit

theorem fl0 : fl .f32 0 = some 0 := by decide

/-- a number that is neither an infinity nor a NaN -/
def finB (x : Option Nat) : Bool := ford .f32 (fop .sub .f32 x x) (some 0) == some Ordering.eq
theorem finB_eq (x : Nat) (t : Tape) (d : Nat) : (FloatKind.f32.format.order (fres .sub .f32 x x t d) 0 == some Ordering.eq) = finB (fl .f32 x) := by
  rw [order_fl, fl_fres, fl0]
  rfl


theorem spec_l01Finite_c (w : World) (x : Nat) : Calls Try.prog 68 #[.float .f32 x] w fun e w' => e = .returned (.bool (finB (fl .f32 x))) ∧ ∃ n, w' = w.drewN n := by
  go_enter Try.func68, Try.ntmps68
  go_wp2
  go_ret
  exact ⟨ret_bool (finB_eq _ _ _), _, rfl⟩


theorem impl_IsFinite_c (w : World) (x : Nat) : Calls Try.prog 60 #[.float .f32 x] w fun e w' => e = .returned (.bool (finB (fl .f32 x))) ∧ ∃ n, w' = w.drewN n := by
  go_enter Try.func60, Try.ntmps60
  go_wp2
  go_ret
  exact ⟨ret_bool (finB_eq _ _ _), _, rfl⟩


set_option maxHeartbeats 400000 in
theorem spec_l02Finite_c (w : World) (B : Nat) (A : Option Addr) (n cap : Nat) (xs : List Nat) (hl : xs.length = n) (hn : n ≤ 1099511627776) (hx : Sl w B A (xs.map (Value.float .f32))) :
    Calls Try.prog 40 #[.slice A n cap] w fun e w' => e = .returned (.bool (xs.all fun x => finB (fl .f32 x))) ∧ ∃ n, w' = w.drewN n := by
  go_enter Try.func40, Try.ntmps40
  go_wp2
  go_loopw [3] (fun i wr => ∃ k m : Nat, k ≤ n ∧ i = .int .i64 k ∧ (xs.take k).all (fun x => finB (fl .f32 x)) = true ∧ wr = w.drewN m) (fun i _ => n - (intOf i).toNat)
  case atStart => exact ⟨0, 0, Nat.zero_le _, rfl, rfl, rfl⟩
  case round =>
    obtain ⟨k, m, hk, rfl, hp, rfl⟩ := hrel
    have HP := Lib.hid hp
    clear hp
    by_cases hlt : k < n
    · obtain ⟨b, off, rfl, hbb, hc1⟩ := hx.get k (by omega)
      clear hx
      cases hf : finB (fl .f32 (xs[k]'(by omega)))
      · have HF := Lib.hid hf
        go_wp2_with (go_at_call 68; refine (spec_l01Finite_c _ _).mono ?_; rintro e w' ⟨rfl, q, rfl⟩; rw [HF.out])
        go_ret
        refine ⟨ret_bool ?_, _, rfl⟩
        rw [eq_comm, ← Bool.not_eq_true, List.all_eq_true]
        intro h
        have := h _ (List.getElem_mem (show k < xs.length by omega))
        rw [hf] at this
        cases this
      · have HF := Lib.hid hf
        clear hf
        go_wp2_with (go_at_call 68; refine (spec_l01Finite_c _ _).mono ?_; rintro e w' ⟨rfl, q, rfl⟩; rw [HF.out])
        go_roundw
        case rel =>
          refine ⟨k+1, _, by omega, by go_num, ?_, rfl⟩
          rw [List.take_succ_eq_append_getElem (by omega), List.all_append, HP.out]
          simp [HF.out]
        case measure => simp [intOf]; omega
    · have : k = n := by omega
      subst this
      go_wp2
      go_ret
      exact ⟨ret_bool (by rw [take_all hl] at HP; exact HP.out.symm), _, rfl⟩


theorem impl_areFinite1_c (w : World) (x : Nat) : Calls Try.prog 81 #[.float .f32 x] w fun e w' => e = .returned (.bool (!finB (fl .f32 x))) ∧ ∃ n, w' = w.drewN n := by
  go_enter Try.func81, Try.ntmps81
  go_wp2_with (go_at_call 60; refine (impl_IsFinite_c _ _).mono ?_; rintro e w' ⟨rfl, q, rfl⟩)
  go_ret
  exact ⟨rfl, _, rfl⟩

/-- the first place at which a test holds, or -1 -/
def idxB (p : Value → Bool) (l : List Value) : Int := match l.findIdx? p with | some i => i | none => -1
theorem idxB_some {p : Value → Bool} {l : List Value} {k : Nat} (hk : k < l.length) (hp : ∀ u ∈ l.take k, p u = false) (h : p l[k] = true) : idxB p l = k := by
  have : l.findIdx? p = some k := by
    rw [List.findIdx?_eq_some_iff_getElem]
    refine ⟨hk, h, fun j hj => ?_⟩
    have h1 := hp (l[j]'(by omega)) (by
      rw [List.mem_take_iff_getElem]
      exact ⟨j, by omega, rfl⟩)
    simp [h1]
  simp [idxB, this]
theorem idxB_none {p : Value → Bool} {l : List Value} (hp : ∀ u ∈ l, p u = false) : idxB p l = -1 := by
  have : l.findIdx? p = none := by
    rw [List.findIdx?_eq_none_iff]
    exact hp
  simp [idxB, this]
theorem idxB_any (p : Value → Bool) (l : List Value) : decide (idxB p l ≥ 0) = l.any p := by
  rcases h : l.findIdx? p with _ | i
  · have h1 := List.findIdx?_eq_none_iff.1 h
    have h2 : l.any p = false := by
      rw [← Bool.not_eq_true, List.any_eq_true]
      rintro ⟨x, hx, hp⟩
      rw [h1 x hx] at hp
      cases hp
    simp [idxB, h, h2]
  · have h1 := List.findIdx?_eq_some_iff_getElem.1 h
    have h2 : l.any p = true := List.any_eq_true.2 ⟨_, List.getElem_mem h1.1, h1.2.1⟩
    simp [idxB, h, h2]

/-- a function value that tests elements, quietly -/
def Tests (g : FuncId) (lb : Array Value) (p : Value → Bool) (w : World) (l : List Value) : Prop :=
  (∀ args w, (callFunc g args).run Try.prog w = .ok (.enter g args) w) ∧ ∀ u ∈ l, ∀ m, Calls Try.prog g (#[u] ++ lb) (w.drewN m) fun e w' => e = .returned (.bool (p u)) ∧ ∃ n, w' = (w.drewN m).drewN n


set_option maxRecDepth 100000 in
set_option maxHeartbeats 400000 in
theorem IndexFunc_f32_c (w : World) (B : Nat) (A : Option Addr) (n cap : Nat) (l : List Value) (hl : l.length = n) (hn : n ≤ 1099511627776) (hx : Sl w B A l) (g : FuncId) (p : Value → Bool) (ht : Tests g #[] p w l) :
    Calls Try.prog 93 #[.slice A n cap, .func (.func g) #[] #[]] w fun e w' => e = .returned (.int .i64 (idxB p l)) ∧ ∃ n, w' = w.drewN n := by
  obtain ⟨hent, ht⟩ := ht
  have HT := Lib.hid ht
  clear ht
  go_enter Try.func93, Try.ntmps93
  go_wp2
  go_loopw [8] (fun i wr => ∃ k m : Nat, k ≤ n ∧ i = .int .i64 k ∧ (∀ u ∈ l.take k, p u = false) ∧ wr = w.drewN m) (fun i _ => n - (intOf i).toNat)
  case atStart => exact ⟨0, 0, Nat.zero_le _, rfl, by simp, rfl⟩
  case round =>
    obtain ⟨k, m, hk, rfl, hp, rfl⟩ := hrel
    have HP := Lib.hid hp
    clear hp
    by_cases hlt : k < n
    · obtain ⟨b, off, rfl, hbb, hc⟩ := hx.at_ (k := k) (by omega)
      have hc1 := hc k (l[k]'(by omega)) (List.getElem?_eq_getElem _)
      obtain ⟨u, hu⟩ : ∃ u, l[k]'(by omega) = u := ⟨_, rfl⟩
      rw [hu] at hc1
      have HU := Lib.hid hu
      clear hu hc hx
      cases hp1 : p u
      · have HP1 := Lib.hid hp1
        clear hp1
        go_wp2_with fail
        refine (HT.out u (by rw [← HU.out]; exact List.getElem_mem _) m).mono ?_
        rintro e w' ⟨rfl, q, rfl⟩
        rw [HP1.out]
        go_wp2
        go_roundw
        case rel =>
          refine ⟨k+1, _, by omega, by go_num, ?_, rfl⟩
          rw [List.take_succ_eq_append_getElem (by omega)]
          intro v hv
          rcases List.mem_append.1 hv with h | h
          · exact HP.out v h
          · rw [List.mem_singleton.1 h, HU.out]; exact HP1.out
        case measure => simp [intOf]; omega
      · have HP1 := Lib.hid hp1
        clear hp1
        go_wp2_with fail
        refine (HT.out u (by rw [← HU.out]; exact List.getElem_mem _) m).mono ?_
        rintro e w' ⟨rfl, q, rfl⟩
        rw [HP1.out]
        go_wp2
        go_ret
        exact ⟨ret_int (idxB_some (by omega) HP.out (by rw [HU.out]; exact HP1.out)).symm, _, rfl⟩
    · have : k = n := by omega
      subst this
      go_wp2
      go_ret
      exact ⟨ret_int (by rw [take_all hl] at HP; exact (idxB_none HP.out).symm), _, rfl⟩


theorem ContainsFunc_f32_c (w : World) (B : Nat) (A : Option Addr) (n cap : Nat) (l : List Value) (hl : l.length = n) (hn : n ≤ 1099511627776) (hx : Sl w B A l) (g : FuncId) (p : Value → Bool) (ht : Tests g #[] p w l) :
    Calls Try.prog 80 #[.slice A n cap, .func (.func g) #[] #[]] w fun e w' => e = .returned (.bool (l.any p)) ∧ ∃ n, w' = w.drewN n := by
  go_enter Try.func80, Try.ntmps80
  go_wp2_with (go_at_call 93; refine (IndexFunc_f32_c _ B A n cap l hl hn hx g p ht).mono ?_; rintro e w' ⟨rfl, q, rfl⟩)
  go_ret
  exact ⟨ret_bool (by rw [← idxB_any]), _, rfl⟩


def notFin (u : Value) : Bool := match u with | .float _ x => !finB (fl .f32 x) | _ => false
theorem any_notFin (xs : List Nat) : (xs.map (Value.float .f32)).any notFin = !(xs.all fun x => finB (fl .f32 x)) := by
  rw [List.any_map, List.not_all_eq_any_not]
  rfl
theorem tests_notFin (w : World) (xs : List Nat) : Tests 81 #[] notFin w (xs.map (Value.float .f32)) := by
  refine ⟨Try.call81, fun u hu m => ?_⟩
  obtain ⟨x, _, rfl⟩ := List.mem_map.1 hu
  exact impl_areFinite1_c _ x

theorem impl_areFinite_c (w : World) (B : Nat) (A : Option Addr) (n cap : Nat) (xs : List Nat) (hl : xs.length = n) (hn : n ≤ 1099511627776) (hx : Sl w B A (xs.map (Value.float .f32))) :
    Calls Try.prog 51 #[.slice A n cap] w fun e w' => e = .returned (.bool (xs.all fun x => finB (fl .f32 x))) ∧ ∃ n, w' = w.drewN n := by
  go_enter Try.func51, Try.ntmps51
  go_wp2_with (go_at_call 80; refine (ContainsFunc_f32_c _ B A n cap (xs.map (Value.float .f32)) (by simpa using hl) hn hx _ notFin (tests_notFin _ _)).mono ?_; rintro e w' ⟨rfl, q, rfl⟩)
  go_ret
  exact ⟨ret_bool (by have h := any_notFin xs; rw [List.any_map] at h; rw [h, Bool.not_not]), _, rfl⟩


def softB (xs : List Nat) : Bool := decide (xs.length ≤ 160) && xs.all fun x => finB (fl .f32 x)

set_option maxRecDepth 100000 in
theorem impl_IsSoft_c (w : World) (B : Nat) (A : Option Addr) (n cap : Nat) (xs : List Nat) (hl : xs.length = n) (hx : Sl w B A (xs.map (Value.float .f32))) :
    Calls Try.prog 26 #[.slice A n cap] w fun e w' => e = .returned (.bool (softB xs)) ∧ ∃ n, w' = w.drewN n := by
  by_cases h : n ≤ 160
  · have hs : softB xs = xs.all fun x => finB (fl .f32 x) := by unfold softB; rw [hl, decide_eq_true h, Bool.true_and]
    rw [hs]
    clear hs
    go_enter Try.func26, Try.ntmps26
    go_wp2_with (go_at_call 51; refine (impl_areFinite_c _ B A n cap xs hl (by omega) hx).mono ?_; rintro e w' ⟨rfl, q, rfl⟩)
    go_ret
    exact ⟨rfl, _, rfl⟩
  · have hs : softB xs = false := by unfold softB; rw [hl, decide_eq_false h, Bool.false_and]
    rw [hs]
    clear hs
    go_enter Try.func26, Try.ntmps26
    go_wp2
    go_ret
    exact ⟨rfl, 0, rfl⟩


set_option maxRecDepth 100000 in
theorem spec_l07Soft_c (w : World) (B : Nat) (A : Option Addr) (n cap : Nat) (xs : List Nat) (hl : xs.length = n) (hx : Sl w B A (xs.map (Value.float .f32))) :
    Calls Try.prog 35 #[.slice A n cap] w fun e w' => e = .returned (.bool (softB xs)) ∧ ∃ n, w' = w.drewN n := by
  by_cases h : n ≤ 160
  · have hs : softB xs = xs.all fun x => finB (fl .f32 x) := by unfold softB; rw [hl, decide_eq_true h, Bool.true_and]
    rw [hs]
    clear hs
    go_enter Try.func35, Try.ntmps35
    go_wp2_with (go_at_call 40; refine (spec_l02Finite_c _ B A n cap xs hl (by omega) hx).mono ?_; rintro e w' ⟨rfl, q, rfl⟩)
    go_ret
    exact ⟨rfl, _, rfl⟩
  · have hs : softB xs = false := by unfold softB; rw [hl, decide_eq_false h, Bool.false_and]
    rw [hs]
    clear hs
    go_enter Try.func35, Try.ntmps35
    go_wp2
    go_ret
    exact ⟨rfl, 0, rfl⟩


end Go.Proofs.Ytopeidmafalklaa
