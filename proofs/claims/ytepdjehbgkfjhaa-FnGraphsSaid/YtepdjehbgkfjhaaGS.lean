/-
  Contracts: two graphs are equal.
  Conditions: lengths at most 1048576.
-/
import Derived.Test.YtepdjehbgkfjhaaSG
namespace Go.Proofs.Ytepdjehbgkfjhaa
open Go.RowKit

theorem gsame_ne {α : Type} [BEq α] [LawfulBEq α] {xs ys : List α} {i : Nat} (h1 : i < xs.length) (h2 : i < ys.length) (h : xs[i] ≠ ys[i]) : (xs == ys) = false := by
  rw [beq_eq_false_iff_ne]
  rintro rfl
  exact h rfl
theorem gsame_eq {α : Type} [BEq α] [LawfulBEq α] {xs ys : List α} (hl : xs.length = ys.length) (h : ∀ i (h1 : i < xs.length) (h2 : i < ys.length), xs[i] = ys[i]) : (xs == ys) = true := by
  rw [beq_iff_eq]
  exact List.ext_getElem hl h
theorem gsame_len {α : Type} [BEq α] [LawfulBEq α] {xs ys : List α} (h : xs.length ≠ ys.length) : (xs == ys) = false := by
  rw [beq_eq_false_iff_ne]
  rintro rfl
  exact h rfl


set_option maxRecDepth 100000 in
set_option maxHeartbeats 1000000 in
theorem EqualFunc_rows_c (w : World) (B : Nat) (A A2 : Option Addr) (n cap n2 cap2 : Nat) (xs ys : List RowH) (D D2 : List (List Int)) (hd : dat xs = D) (hd2 : dat ys = D2) (hl : xs.length = n) (hl2 : ys.length = n2) (hn : n ≤ 1048576) (hn2 : n2 ≤ 1048576) (hr : ∀ r ∈ xs, r.2.2.length ≤ 1048576) (hr2 : ∀ r ∈ ys, r.2.2.length ≤ 1048576) (hx : Sl2 w B A xs) (hy : Sl2 w B A2 ys) :
    Calls Try.prog 40 #[.slice A n cap, .slice A2 n2 cap2, .func (.func 41) #[] #[]] w fun e w' => e = .returned (.bool (D == D2)) ∧ ∃ m, w' = w.drewN m := by
  have hdl : D.length = n := by rw [← hd, dat_len, hl]
  have hdl2 : D2.length = n2 := by rw [← hd2, dat_len, hl2]
  have hent := Try.call41
  by_cases hne : n = n2
  · subst hne
    have he : ((n : Int) == (n : Int)) = true := by simp
    go_enter Try.func40, Try.ntmps40
    go_wp2
    go_loopw [17] (fun i wr => ∃ k m : Nat, k ≤ n ∧ i = .int .i64 k ∧ (∀ j (h1 : j < D.length) (h2 : j < D2.length), j < k → D[j] = D2[j]) ∧ wr = w.drewN m) (fun i _ => n - (intOf i).toNat)
    case atStart => exact ⟨0, 0, Nat.zero_le _, rfl, fun j _ _ hj => by omega, rfl⟩
    case round =>
      obtain ⟨k, m, hk, rfl, hp, rfl⟩ := hrel
      have HP := Lib.hid hp
      clear hp
      by_cases hlt : k < n
      · obtain ⟨b, off, rfl, hbb, hc1⟩ := hx.1.get k (by omega)
        obtain ⟨b2, off2, rfl, hbb2, hc2⟩ := hy.1.get k (by omega)
        have g1 := hx.2 (xs[k]'(by omega)) (List.getElem_mem _)
        have g2 := hy.2 (ys[k]'(by omega)) (List.getElem_mem _)
        have g3 := hr (xs[k]'(by omega)) (List.getElem_mem _)
        have g4 := hr2 (ys[k]'(by omega)) (List.getElem_mem _)
        have e1 : D[k]'(by omega) = (xs[k]'(by omega)).2.2 := by
          rw [← dat_get (by omega)]
          simp only [hd]
        have e2 : D2[k]'(by omega) = (ys[k]'(by omega)).2.2 := by
          rw [← dat_get (by omega)]
          simp only [hd2]
        obtain ⟨⟨a, c, l⟩, hxx⟩ : ∃ x, xs[k]'(by omega) = x := ⟨_, rfl⟩
        obtain ⟨⟨a2, c2, l2⟩, hyy⟩ : ∃ x, ys[k]'(by omega) = x := ⟨_, rfl⟩
        rw [hxx] at hc1 g1 g3 e1
        rw [hyy] at hc2 g2 g4 e2
        simp only [rowV] at hc1 hc2 g1 g2 g3 g4 e1 e2
        have E1 := Lib.hid e1
        have E2 := Lib.hid e2
        clear hx hy hxx hyy hr hr2 e1 e2 hd hd2
        cases hxy : l == l2
        · have HXY := Lib.hid hxy
          clear hxy
          go_wp2_with fail
          refine (Equal_i64_c (w.drewN m) B a a2 l.length c l2.length c2 l l2 rfl rfl (by omega) (by omega) g1 g2).mono ?_
          rintro e w' ⟨rfl, q, rfl⟩
          rw [HXY.out]
          go_wp2
          go_ret
          refine ⟨ret_bool (gsame_ne (i := k) (by omega) (by omega) ?_).symm, _, rfl⟩
          rw [E1.out, E2.out]
          have := HXY.out
          rwa [beq_eq_false_iff_ne] at this
        · have HXY := Lib.hid hxy
          clear hxy
          go_wp2_with fail
          refine (Equal_i64_c (w.drewN m) B a a2 l.length c l2.length c2 l l2 rfl rfl (by omega) (by omega) g1 g2).mono ?_
          rintro e w' ⟨rfl, q, rfl⟩
          rw [HXY.out]
          go_wp2
          go_roundw
          case rel =>
            refine ⟨k + 1, _, by omega, by go_num, ?_, rfl⟩
            intro j h1 h2 hj
            by_cases hjk : j = k
            · subst hjk
              rw [E1.out, E2.out]
              exact beq_iff_eq.1 HXY.out
            · exact HP.out j h1 h2 (by omega)
          case measure => simp [intOf]; omega
      · have : k = n := by omega
        subst this
        go_wp2
        go_ret
        exact ⟨ret_bool (gsame_eq (by omega) (fun i h1 h2 => HP.out i h1 h2 (by omega))).symm, _, rfl⟩
  · have he : ((n : Int) == (n2 : Int)) = false := by simp; omega
    rw [gsame_len (by omega)]
    go_enter Try.func40, Try.ntmps40
    go_wp2
    go_ret
    exact ⟨rfl, 0, rfl⟩


def sameGraphB (m : Int) (D : List (List Int)) (m2 : Int) (D2 : List (List Int)) : Bool := (m == m2) && (D == D2)

set_option maxRecDepth 100000 in
theorem impl_SameGraph_c (w : World) (m : Int) (A : Option Addr) (n cap : Nat) (xs : List RowH) (D : List (List Int)) (hd : dat xs = D) (hl : xs.length = n) (hn : n ≤ 1048576) (hr : ∀ r ∈ xs, r.2.2.length ≤ 1048576) (hx : Sl2 w w.heap.size A xs)
    (m2 : Int) (A2 : Option Addr) (n2 cap2 : Nat) (ys : List RowH) (D2 : List (List Int)) (hd2 : dat ys = D2) (hl2 : ys.length = n2) (hn2 : n2 ≤ 1048576) (hr2 : ∀ r ∈ ys, r.2.2.length ≤ 1048576) (hy : Sl2 w w.heap.size A2 ys) :
    Calls Try.prog 15 #[.agg #[.int .i64 m, .slice A n cap], .agg #[.int .i64 m2, .slice A2 n2 cap2]] w fun e w' => e = .returned (.bool (sameGraphB m D m2 D2)) ∧ Below w.heap.size w w' := by
  unfold sameGraphB
  cases he : m == m2
  all_goals
    go_enter Try.func15, Try.ntmps15
    go_wp2_with (go_at_call 40; refine (EqualFunc_rows_c _ _ A A2 n cap n2 cap2 xs ys D D2 hd hd2 hl hl2 hn hn2 hr hr2 ((hx.alloc (Nat.le_refl _) _).alloc (by simp) _) ((hy.alloc (Nat.le_refl _) _).alloc (by simp) _)).mono ?_; rintro e w' ⟨rfl, q, rfl⟩)
    go_ret
    first
      | exact ⟨rfl, below_drewN (((Below.refl _ _).alloc (Nat.le_refl _) _).alloc (by simp) _) _⟩
      | exact ⟨rfl, ((Below.refl _ _).alloc (Nat.le_refl _) _).alloc (by simp) _⟩

end Go.Proofs.Ytepdjehbgkfjhaa
