/-
  Contracts: soft numbers of bits, and bits of soft numbers.
  Conditions: lengths at most 1048576.
-/
import Derived.Test.YtopeidmafalklaaCA
import Derived.Test.YtopeidmafalklaaH
namespace Go.Proofs.Ytopeidmafalklaa
open Go.RowKit


def softSign (s : Nat) (b : Bool) : Nat := if b then s else Op.negFloat .f32 s
def softOkB (n : Nat) (s : Nat) : Bool := decide (n ≤ 160) && finB (fl .f32 s)
def softOfL (bits : List Bool) (s : Nat) : List Nat := if softOkB bits.length s then bits.map (softSign s) else []



set_option maxRecDepth 100000 in
set_option maxHeartbeats 400000 in
theorem impl_SoftOf_go (w : World) (A : Option Addr) (n cap : Nat) (xs : List Bool) (hl : xs.length = n) (hx : Sl w w.heap.size A (xs.map Value.bool)) (s : Nat) (hn : n ≤ 160) (hf : finB (fl .f32 s) = true) :
    Calls Try.prog 20 #[.slice A n cap, .float .f32 s] w fun e w' => ∃ v, e = .returned (.tuple #[v, .bool true]) ∧ Ow w' w.heap.size 46 v ((xs.map (softSign s)).map (Value.float .f32)) ∧ Below w.heap.size w w' := by
  have HF := Lib.hid hf
  clear hf
  go_enter Try.func20, Try.ntmps20
  go_wp2_with (go_at_call 60; refine (impl_IsFinite_c _ _).mono ?_; rintro e w' ⟨rfl, q, rfl⟩; rw [HF.out])
  go_loopw [6, 20] (fun v i wr => ∃ k : Nat, k ≤ n ∧ i = .int .i64 k ∧ Ow wr w.heap.size 46 v (((xs.take k).map (softSign s)).map (Value.float .f32)) ∧ Below w.heap.size w wr) (fun _ i _ => n - (intOf i).toNat)
  case atStart => exact ⟨0, Nat.zero_le _, rfl, own_empty _ _ _ (Nat.le_refl _), below_drewN ((Below.refl _ _).alloc (Nat.le_refl _) _) _⟩
  case round =>
    obtain ⟨k, hk, rfl, ho, hb⟩ := hrel
    by_cases hlt : k < n
    · obtain ⟨b, off, rfl, hbb, hc1⟩ := (hx.below hb).get k (by omega)
      clear hx
      have hz := hb.size
      have hlen : (((xs.take k).map (softSign s)).map (Value.float .f32)).length + 1 ≤ 1099511627776 := by simp; omega
      have hst : ∀ u, softSign s (xs[k]'(by omega)) = u → (((xs.take k).map (softSign s)).map (Value.float .f32)) ++ [Value.float .f32 u] = ((xs.take (k+1)).map (softSign s)).map (Value.float .f32) := by
        rintro _ rfl
        rw [List.take_succ_eq_append_getElem (by omega), List.map_append, List.map_append]; rfl
      have HT := Lib.hid hst
      clear hst
      cases hbit : xs[k]'(by omega)
      all_goals
        rw [hbit] at hc1 HT
        clear hbit
        go_wp2_with (at_builtin; go_must (refine app1 Try.underlying25 infoFloat32 rfl (by decide) rfl _ _ rfl _ _ _ rfl (ho.alloc _) _ _ _ rfl (cell_new1 _ _ _) rfl hlen (by simp; omega) ?_); intro v' w1 ho1 hb1)
        go_roundw
        case rel =>
          refine ⟨k + 1, by omega, by go_num, ?_, (hb.alloc hz _).trans hb1⟩
          rw [← HT.out _ rfl]
          exact ho1
        case measure => simp [intOf]; omega
    · have : k = n := by omega
      subst this
      go_wp2
      go_ret2
      rw [take_all hl] at ho
      exact ⟨_, rfl, ho, hb⟩


theorem softOfL_len (xs : List Bool) (s : Nat) : (softOfL xs s).length ≤ 160 := by
  unfold softOfL softOkB
  split
  · rename_i h
    simp only [Bool.and_eq_true, decide_eq_true_eq] at h
    rw [List.length_map]
    exact h.1
  · exact Nat.zero_le _



set_option maxRecDepth 100000 in
theorem impl_SoftOf_c (w : World) (A : Option Addr) (n cap : Nat) (xs : List Bool) (hl : xs.length = n) (_hn : n ≤ 1048576) (hx : Sl w w.heap.size A (xs.map Value.bool)) (s : Nat) :
    Calls Try.prog 20 #[.slice A n cap, .float .f32 s] w fun e w' => ∃ v, e = .returned (.tuple #[v, .bool (softOkB n s)]) ∧ Ow w' w.heap.size 46 v ((softOfL xs s).map (Value.float .f32)) ∧ Below w.heap.size w w' := by
  by_cases h1 : n ≤ 160
  · cases hf : finB (fl .f32 s)
    · have e1 : softOkB n s = false := by simp [softOkB, hf]
      have e2 : softOfL xs s = [] := by unfold softOfL; rw [hl, e1]; rfl
      rw [e1, e2]
      have HF := Lib.hid hf
      clear hf e1 e2
      go_enter Try.func20, Try.ntmps20
      go_wp2_with (go_at_call 60; refine (impl_IsFinite_c _ _).mono ?_; rintro e w' ⟨rfl, q, rfl⟩; rw [HF.out])
      go_ret2
      exact ⟨_, rfl, World.ownsRow_nil _ _ _ _, below_of_drewN _ _ _⟩
    · have e1 : softOkB n s = true := by simp [softOkB, hf, h1]
      have e2 : softOfL xs s = xs.map (softSign s) := by unfold softOfL; rw [hl, e1]; rfl
      rw [e1, e2]
      exact impl_SoftOf_go w A n cap xs hl hx s h1 hf
  · have e1 : softOkB n s = false := by simp [softOkB, h1]
    have e2 : softOfL xs s = [] := by unfold softOfL; rw [hl, e1]; rfl
    rw [e1, e2]
    clear e1 e2
    go_enter Try.func20, Try.ntmps20
    go_wp2
    go_ret2
    exact ⟨_, rfl, World.ownsRow_nil _ _ _ _, Below.refl _ _⟩


def hardB (x : Nat) : Bool := FloatKind.f32.format.order x 0 == some Ordering.gt
def hardOfL (xs : List Nat) : List Bool := if softB xs then xs.map hardB else []
theorem hardOfL_len (xs : List Nat) : (hardOfL xs).length ≤ xs.length := by
  unfold hardOfL
  split
  · rw [List.length_map]; exact Nat.le_refl _
  · exact Nat.zero_le _


set_option maxRecDepth 100000 in
set_option maxHeartbeats 400000 in
theorem impl_hard_c (w : World) (A : Option Addr) (n cap : Nat) (xs : List Nat) (hl : xs.length = n) (hn : n ≤ 1048576) (hx : Sl w w.heap.size A (xs.map (Value.float .f32))) :
    Calls Try.prog 61 #[.slice A n cap] w fun e w' => ∃ v, e = .returned v ∧ Ow w' w.heap.size 4 v ((xs.map hardB).map Value.bool) ∧ Below w.heap.size w w' := by
  go_enter Try.func61, Try.ntmps61
  go_wp2
  go_loopw [3, 9] (fun v i wr => ∃ k : Nat, k ≤ n ∧ i = .int .i64 k ∧ Ow wr w.heap.size 4 v (((xs.take k).map hardB).map Value.bool) ∧ Below w.heap.size w wr) (fun _ i _ => n - (intOf i).toNat)
  case atStart => exact ⟨0, Nat.zero_le _, rfl, own_empty _ _ _ (Nat.le_refl _), (Below.refl _ _).alloc (Nat.le_refl _) _⟩
  case round =>
    obtain ⟨k, hk, rfl, ho, hb⟩ := hrel
    by_cases hlt : k < n
    · obtain ⟨b, off, rfl, hbb, hc1⟩ := (hx.below hb).get k (by omega)
      clear hx
      have hz := hb.size
      have hlen : (((xs.take k).map hardB).map Value.bool).length + 1 ≤ 1099511627776 := by simp; omega
      have hst : (((xs.take k).map hardB).map Value.bool) ++ [Value.bool (FloatKind.f32.format.order (xs[k]'(by omega)) 0 == some Ordering.gt)] = ((xs.take (k+1)).map hardB).map Value.bool := by
        rw [List.take_succ_eq_append_getElem (by omega), List.map_append, List.map_append]; rfl
      have HT := Lib.hid hst
      clear hst
      go_wp2_with (at_builtin; refine app1 Try.underlying41 infoBool rfl (by decide) rfl _ _ rfl _ _ _ rfl (ho.alloc _) _ _ _ rfl (cell_new1 _ _ _) rfl hlen (by simp; omega) ?_; intro v' w1 ho1 hb1)
      go_roundw
      case rel =>
        refine ⟨k + 1, by omega, by go_num, ?_, (hb.alloc hz _).trans hb1⟩
        rw [← HT.out]
        exact ho1
      case measure => simp [intOf]; omega
    · have : k = n := by omega
      subst this
      go_wp2
      go_ret
      rw [take_all hl] at ho
      exact ⟨_, rfl, ho, hb⟩




set_option maxRecDepth 100000 in
theorem impl_HardOf_c (w : World) (A : Option Addr) (n cap : Nat) (xs : List Nat) (hl : xs.length = n) (hn : n ≤ 1048576) (hx : Sl w w.heap.size A (xs.map (Value.float .f32))) :
    Calls Try.prog 21 #[.slice A n cap] w fun e w' => ∃ v, e = .returned (.tuple #[v, .bool (softB xs)]) ∧ Ow w' w.heap.size 4 v ((hardOfL xs).map Value.bool) ∧ Below w.heap.size w w' := by
  cases hs : softB xs
  · have e2 : hardOfL xs = [] := by simp [hardOfL, hs]
    rw [e2]
    clear e2
    have HS := Lib.hid hs
    clear hs
    go_enter Try.func21, Try.ntmps21
    go_wp2_with (go_at_call 26; refine (impl_IsSoft_c _ _ A n cap xs hl hx).mono ?_; rintro e w' ⟨rfl, q, rfl⟩; rw [HS.out])
    go_ret2
    exact ⟨_, rfl, World.ownsRow_nil _ _ _ _, below_of_drewN _ _ _⟩
  · have e2 : hardOfL xs = xs.map hardB := by simp [hardOfL, hs]
    rw [e2]
    clear e2
    have HS := Lib.hid hs
    clear hs
    go_enter Try.func21, Try.ntmps21
    go_wp2_with (first | (go_at_call 26; refine (impl_IsSoft_c _ _ A n cap xs hl hx).mono ?_; rintro e w' ⟨rfl, q, rfl⟩; rw [HS.out]) | (go_at_call 61; refine (impl_hard_c _ A n cap xs hl hn (hx.drewN _)).mono ?_; rintro e w' ⟨v, rfl, ho, hb⟩))
    go_ret2
    exact ⟨_, rfl, ho, (below_of_drewN _ _ _).trans hb⟩

end Go.Proofs.Ytopeidmafalklaa
