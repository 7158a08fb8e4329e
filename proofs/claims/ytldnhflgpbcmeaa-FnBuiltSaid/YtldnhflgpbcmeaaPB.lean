/-
  Contracts: rows in steps; codes of rows are valid.
  Conditions: lengths at most 1048576.
-/
import Derived.Test.YtldnhflgpbcmeaaPA
import Derived.Test.YtldnhflgpbcmeaaH
import Derived.Deep.RegionHeld3
namespace Go.Proofs.Ytldnhflgpbcmeaa
open Go.RowKit


theorem impl_hasDigit_c (w : World) (x i : Int) (h0 : 0 ≤ i) (h1 : i ≤ 63) : Calls Try.prog 32 #[.int .i64 x, .int .i64 i] w fun e w' => e = .returned (.bool (hasD x i)) ∧ w = w' := by
  go_enter Try.func32, Try.ntmps32
  go_wp2
  go_ret
  exact ⟨ret_bool rfl, rfl⟩


theorem spec_l06Has_c (w : World) (x i : Int) (h0 : 0 ≤ i) (h1 : i ≤ 63) : Calls Try.prog 79 #[.int .i64 x, .int .i64 i] w fun e w' => e = .returned (.bool (hasD x i)) ∧ w = w' := by
  have hcv : IntKind.u64.wrap i = i := IntWalk.u64_in _ (by omega)
  go_enter Try.func79, Try.ntmps79
  go_wp2
  go_ret
  exact ⟨ret_bool rfl, rfl⟩


set_option maxRecDepth 100000 in
set_option maxHeartbeats 400000 in
theorem Clone_i64_c (w : World) (A : Option Addr) (n cap : Nat) (l : List Int) (hl : l.length = n) (hn : n ≤ 1099511627775) (hx : Sl w w.heap.size A (l.map (Value.int .i64))) :
    Calls Try.prog 54 #[.slice A n cap] w fun e w' => ∃ v, e = .returned v ∧ Ow w' w.heap.size 2 v (l.map (Value.int .i64)) ∧ Below w.heap.size w w' := by
  cases A with
  | none =>
    have hn : l = [] := by
      rcases hx with h0 | ⟨b, off, he, _⟩
      · simpa using h0
      · cases he
    subst hn
    have hl0 : n = 0 := hl.symm
    subst hl0
    have he := Lib.run_eql_slice_nil (P := Try.prog)
    go_enter Try.func54, Try.ntmps54
    go_wp2
    go_ret
    exact ⟨_, rfl, World.ownsRow_nil _ _ _ _, Below.refl _ _⟩
  | some ad =>
    have he := Lib.run_eql_slice_nil (P := Try.prog)
    go_enter Try.func54, Try.ntmps54
    go_wp2_with (at_builtin; refine appS Try.underlying25 infoInt64 rfl (by decide) rfl _ _ rfl _ _ [] rfl (own_empty _ _ _ (Nat.le_refl _)) _ _ n cap (l.map (Value.int .i64)) rfl (by simpa using hl) (hx.alloc (Nat.le_refl _) _) one_int (by simp; omega) (by simp) ?_; intro v' w1 ho1 hb1)
    go_ret
    exact ⟨_, rfl, by simpa using ho1, ((Below.refl _ _).alloc (Nat.le_refl _) _).trans hb1⟩


/-- a function value that tests numbers, quietly -/
def TestsI (g : FuncId) (lb : Array Value) (p : Int → Bool) (w : World) (l : List Int) : Prop :=
  (∀ args w, (callFunc g args).run Try.prog w = .ok (.enter g args) w) ∧ ∀ u ∈ l, ∀ m, Calls Try.prog g (#[.int .i64 u] ++ lb) (w.drewN m) fun e w' => e = .returned (.bool (p u)) ∧ ∃ n, w' = (w.drewN m).drewN n
def idxI (p : Int → Bool) (l : List Int) : Int := if l.findIdx p < l.length then (l.findIdx p : Nat) else -1
set_option maxRecDepth 100000 in
set_option maxHeartbeats 400000 in
theorem IndexFunc_i64_c (w : World) (B : Nat) (A : Option Addr) (n cap : Nat) (l : List Int) (hl : l.length = n) (hn : n ≤ 1099511627776) (hx : Sl w B A (l.map (Value.int .i64))) (g : FuncId) (b : Value) (p : Int → Bool) (ht : TestsI g #[b] p w l) :
    Calls Try.prog 55 #[.slice A n cap, .func (.func g) #[] #[b]] w fun e w' => e = .returned (.int .i64 (idxI p l)) ∧ ∃ n, w' = w.drewN n := by
  obtain ⟨hent, ht⟩ := ht
  have HT := Lib.hid ht
  clear ht
  go_enter Try.func55, Try.ntmps55
  go_wp2
  go_loopw [8] (fun i wr => ∃ k m : Nat, k ≤ n ∧ i = .int .i64 k ∧ k ≤ l.findIdx p ∧ wr = w.drewN m) (fun i _ => n - (intOf i).toNat)
  case atStart => exact ⟨0, 0, Nat.zero_le _, rfl, Nat.zero_le _, rfl⟩
  case round =>
    obtain ⟨k, m, hk, rfl, hp, rfl⟩ := hrel
    have HP := Lib.hid hp
    clear hp
    by_cases hlt : k < n
    · obtain ⟨b2, off, rfl, hbb, hc1⟩ := hx.get k (by omega)
      have hkl : k < l.length := by omega
      obtain ⟨u, hu⟩ : ∃ u, l[k]'hkl = u := ⟨_, rfl⟩
      rw [hu] at hc1
      have HU := Lib.hid hu
      clear hu hx
      cases hp1 : p u
      · have HP1 := Lib.hid hp1
        clear hp1
        go_wp2_with fail
        refine (HT.out u (by rw [← HU.out]; exact List.getElem_mem _) m).mono ?_
        rintro e w' ⟨rfl, q, rfl⟩
        rw [HP1.out]
        go_wp2
        go_roundw
        case rel =>
          refine ⟨k+1, _, by omega, by go_num, ?_, rfl⟩
          rcases Nat.lt_or_ge k (l.findIdx p) with h | h
          · exact h
          · have e : l.findIdx p = k := by have := HP.out; omega
            have h2 : p (l[k]'hkl) = true := by
              have h3 := List.findIdx_getElem (w := show l.findIdx p < l.length by omega)
              simpa only [e] using h3
            rw [HU.out, HP1.out] at h2
            cases h2
        case measure => simp [intOf]; omega
      · have HP1 := Lib.hid hp1
        clear hp1
        go_wp2_with fail
        refine (HT.out u (by rw [← HU.out]; exact List.getElem_mem _) m).mono ?_
        rintro e w' ⟨rfl, q, rfl⟩
        rw [HP1.out]
        go_wp2
        go_ret
        refine ⟨ret_int ?_, _, rfl⟩
        have e : l.findIdx p = k := by
          rcases Nat.lt_or_ge k (l.findIdx p) with h | h
          · have h2 := List.not_of_lt_findIdx h
            rw [HU.out, HP1.out] at h2
            cases h2
          · have := HP.out; omega
        unfold idxI
        rw [e, if_pos hkl]
    · have : k = n := by omega
      subst this
      go_wp2
      go_ret
      refine ⟨ret_int ?_, _, rfl⟩
      unfold idxI
      rw [if_neg (by have := HP.out; omega)]


theorem echelon1_c (w : World) (b : Nat) (x i : Int) (h0 : 0 ≤ i) (h1 : i ≤ 63) (hc : w.cell? ⟨b, 0, none⟩ = some (.int .i64 i)) :
    Calls Try.prog 56 #[.int .i64 x, .pointer (some ⟨b, 0, none⟩)] w fun e w' => e = .returned (.bool (hasD x i)) ∧ ∃ n, w' = w.drewN n := by
  go_enter Try.func56, Try.ntmps56
  go_wp2_with (go_at_call 32; refine (impl_hasDigit_c _ _ _ h0 h1).mono ?_; rintro e w' ⟨rfl, rfl⟩)
  go_ret
  exact ⟨rfl, 0, rfl⟩

end Go.Proofs.Ytldnhflgpbcmeaa
