/-
  Contracts: soft numbers of bits, and bits of soft numbers.
  Conditions: lengths at most 1048576.
-/
import Derived.Test.YtepdjehbgkfjhaaCA
import Derived.Test.YtepdjehbgkfjhaaH
namespace Go.Proofs.Ytepdjehbgkfjhaa
open Go.RowKit


def softSign (s : Nat) (b : Bool) : Nat := if b then s else Op.negFloat .f32 s
def softOkB (n : Nat) (s : Nat) : Bool := decide (n ≤ 160) && finB (fl .f32 s)
def softOfL (bits : List Bool) (s : Nat) : List Nat := if softOkB bits.length s then bits.map (softSign s) else []




theorem softOfL_len (xs : List Bool) (s : Nat) : (softOfL xs s).length ≤ 160 := by
  unfold softOfL softOkB
  split
  · rename_i h
    simp only [Bool.and_eq_true, decide_eq_true_eq] at h
    rw [List.length_map]
    exact h.1
  · exact Nat.zero_le _




def hardB (x : Nat) : Bool := FloatKind.f32.format.order x 0 == some Ordering.gt
def hardOfL (xs : List Nat) : List Bool := if softB xs then xs.map hardB else []
theorem hardOfL_len (xs : List Nat) : (hardOfL xs).length ≤ xs.length := by
  unfold hardOfL
  split
  · rw [List.length_map]; exact Nat.le_refl _
  · exact Nat.zero_le _


set_option maxRecDepth 100000 in
set_option maxHeartbeats 400000 in
theorem impl_hard_c (w : World) (A : Option Addr) (n cap : Nat) (xs : List Nat) (hl : xs.length = n) (hn : n ≤ 1048576) (hx : Sl w w.heap.size A (xs.map (Value.float .f32))) :
    Calls Try.prog 30 #[.slice A n cap] w fun e w' => ∃ v, e = .returned v ∧ Ow w' w.heap.size 4 v ((xs.map hardB).map Value.bool) ∧ Below w.heap.size w w' := by
  go_enter Try.func30, Try.ntmps30
  go_wp2
  go_loopw [3, 9] (fun v i wr => ∃ k : Nat, k ≤ n ∧ i = .int .i64 k ∧ Ow wr w.heap.size 4 v (((xs.take k).map hardB).map Value.bool) ∧ Below w.heap.size w wr) (fun _ i _ => n - (intOf i).toNat)
  case atStart => exact ⟨0, Nat.zero_le _, rfl, own_empty _ _ _ (Nat.le_refl _), (Below.refl _ _).alloc (Nat.le_refl _) _⟩
  case round =>
    obtain ⟨k, hk, rfl, ho, hb⟩ := hrel
    by_cases hlt : k < n
    · obtain ⟨b, off, rfl, hbb, hc1⟩ := (hx.below hb).get k (by omega)
      clear hx
      have hz := hb.size
      have hlen : (((xs.take k).map hardB).map Value.bool).length + 1 ≤ 1099511627776 := by simp; omega
      have hst : (((xs.take k).map hardB).map Value.bool) ++ [Value.bool (FloatKind.f32.format.order (xs[k]'(by omega)) 0 == some Ordering.gt)] = ((xs.take (k+1)).map hardB).map Value.bool := by
        rw [List.take_succ_eq_append_getElem (by omega), List.map_append, List.map_append]; rfl
      have HT := Lib.hid hst
      clear hst
      go_wp2_with (at_builtin; refine app1 Try.underlying28 infoBool rfl (by decide) rfl _ _ rfl _ _ _ rfl (ho.alloc _) _ _ _ rfl (cell_new1 _ _ _) rfl hlen (by simp; omega) ?_; intro v' w1 ho1 hb1)
      go_roundw
      case rel =>
        refine ⟨k + 1, by omega, by go_num, ?_, (hb.alloc hz _).trans hb1⟩
        rw [← HT.out]
        exact ho1
      case measure => simp [intOf]; omega
    · have : k = n := by omega
      subst this
      go_wp2
      go_ret
      rw [take_all hl] at ho
      exact ⟨_, rfl, ho, hb⟩


set_option maxRecDepth 100000 in
set_option maxHeartbeats 400000 in
theorem spec_l07Hard_c (w : World) (A : Option Addr) (n cap : Nat) (xs : List Nat) (hl : xs.length = n) (hn : n ≤ 1048576) (hx : Sl w w.heap.size A (xs.map (Value.float .f32))) :
    Calls Try.prog 34 #[.slice A n cap] w fun e w' => ∃ v, e = .returned v ∧ Ow w' w.heap.size 4 v ((xs.map hardB).map Value.bool) ∧ Below w.heap.size w w' := by
  go_enter Try.func34, Try.ntmps34
  go_wp2
  go_loopw [3, 8] (fun v i wr => ∃ k : Nat, k ≤ n ∧ i = .int .i64 k ∧ Ow wr w.heap.size 4 v (((xs.take k).map hardB).map Value.bool) ∧ Below w.heap.size w wr) (fun _ i _ => n - (intOf i).toNat)
  case atStart => exact ⟨0, Nat.zero_le _, rfl, own_empty _ _ _ (Nat.le_refl _), (Below.refl _ _).alloc (Nat.le_refl _) _⟩
  case round =>
    obtain ⟨k, hk, rfl, ho, hb⟩ := hrel
    by_cases hlt : k < n
    · obtain ⟨b, off, rfl, hbb, hc1⟩ := (hx.below hb).get k (by omega)
      clear hx
      have hz := hb.size
      have hlen : (((xs.take k).map hardB).map Value.bool).length + 1 ≤ 1099511627776 := by simp; omega
      have hst : (((xs.take k).map hardB).map Value.bool) ++ [Value.bool (FloatKind.f32.format.order (xs[k]'(by omega)) 0 == some Ordering.gt)] = ((xs.take (k+1)).map hardB).map Value.bool := by
        rw [List.take_succ_eq_append_getElem (by omega), List.map_append, List.map_append]; rfl
      have HT := Lib.hid hst
      clear hst
      go_wp2_with (at_builtin; refine app1 Try.underlying28 infoBool rfl (by decide) rfl _ _ rfl _ _ _ rfl (ho.alloc _) _ _ _ rfl (cell_new1 _ _ _) rfl hlen (by simp; omega) ?_; intro v' w1 ho1 hb1)
      go_roundw
      case rel =>
        refine ⟨k + 1, by omega, by go_num, ?_, (hb.alloc hz _).trans hb1⟩
        rw [← HT.out]
        exact ho1
      case measure => simp [intOf]; omega
    · have : k = n := by omega
      subst this
      go_wp2
      go_ret
      rw [take_all hl] at ho
      exact ⟨_, rfl, ho, hb⟩



end Go.Proofs.Ytepdjehbgkfjhaa
