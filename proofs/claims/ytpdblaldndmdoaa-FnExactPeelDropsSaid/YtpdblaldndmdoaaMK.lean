/-
  Contracts: rows of rows and graphs marked.
  Conditions: lengths at most 1048576.
-/
import Derived.Test.YtpdblaldndmdoaaFR
namespace Go.Proofs.Ytpdblaldndmdoaa
open Go.RowKit

/-- only blocks from c to d are turned -/
structure Spot (c d : Nat) (w w' : World) : Prop where
  os : w'.os = w.os
  tape : w'.tape = w.tape
  output : w'.output = w.output
  size : w.heap.size ≤ w'.heap.size
  block : ∀ i, i < w.heap.size → (i < c ∨ d ≤ i) → w'.heap[i]? = w.heap[i]?
theorem Spot.refl (c d : Nat) (w : World) : Spot c d w w := ⟨rfl, rfl, rfl, Nat.le_refl _, fun _ _ _ => rfl⟩
theorem Spot.trans {c d : Nat} {w w1 w2 : World} (h : Spot c d w w1) (g : Spot c d w1 w2) : Spot c d w w2 :=
  ⟨g.os.trans h.os, g.tape.trans h.tape, g.output.trans h.output, Nat.le_trans h.size g.size, fun i hi hc => (g.block i (Nat.lt_of_lt_of_le hi h.size) hc).trans (h.block i hi hc)⟩
theorem Spot.of_grown {c d : Nat} {w w' : World} {v : Value} (h : w.grownBy w' v.ownBlock) (hv : In v c d) : Spot c d w w' :=
  ⟨h.os, h.tape, h.output, h.size, fun i hi hc => h.block i hi fun he => by
    have := hv i he.symm
    omega⟩
theorem Spot.of_below {c d : Nat} {w w' : World} (h : Below w.heap.size w w') : Spot c d w w' := ⟨h.os, h.tape, h.output, h.size, fun i hi _ => h.block i hi⟩
theorem own_spot {w w' : World} {base : Nat} {e : TypeId} {size n : Nat} {v : Value} {xs : List Value} {a b c d : Nat} (h : w.ownsRow base e size v n xs) (hs : Spot c d w w') (hv : In v a b) (ho : b ≤ c ∨ d ≤ a) : w'.ownsRow base e size v n xs := by
  refine ⟨h.1, ?_⟩
  rcases h.2 with hn | ⟨g, cap, cur, rfl, hbg, hg, rest⟩
  · exact .inl hn
  · refine .inr ⟨g, cap, cur, rfl, hbg, ?_, rest⟩
    have h1 := hv g rfl
    rw [hs.block g (Array.getElem?_eq_some_iff.1 hg).1 (by omega)]
    exact hg
theorem cell_spot {w w' : World} {p : Addr} {c d : Nat} (hs : Spot c d w w') (hp : p.block < w.heap.size) (ho : p.block < c ∨ d ≤ p.block) : w'.cell? p = w.cell? p := by
  unfold World.cell?
  rw [hs.block p.block hp ho]
theorem below_spot {B c d : Nat} {w w1 w' : World} (h : Below B w w1) (hs : Spot c d w1 w') (hc : B ≤ c) (hz : B ≤ w1.heap.size) : Below B w w' :=
  ⟨hs.os.trans h.os, hs.tape.trans h.tape, hs.output.trans h.output, Nat.le_trans h.size hs.size, fun i hi => (hs.block i (by omega) (.inl (by omega))).trans (h.block i hi)⟩
/-- rows stay rows where one of them is written -/
theorem owned_kept {w w' : World} {base : Nat} {e : TypeId} {v : Value} {n m cap : Nat} {A : Option Addr} {ms zs : List Value} (h : ∃ xs, w.ownsRow base e 1 v n xs) (hm : w.ownsRow base e 1 (.slice A m cap) m ms) (hm' : w'.ownsRow base e 1 (.slice A m cap) m zs) (hg : w.grownBy w' (Value.slice A m cap).ownBlock) : ∃ xs, w'.ownsRow base e 1 v n xs := by
  obtain ⟨xs, h0⟩ := h
  by_cases hb : ∃ g, v.ownBlock = some g ∧ (Value.slice A m cap).ownBlock = some g
  · obtain ⟨g, h1, h2⟩ := hb
    rcases h0.2 with ⟨rfl, hn⟩ | ⟨g1, c1, cur1, rfl, hbg, hg1, hn1, hc1, hs1, ht1⟩
    · cases h1
    · rcases hm.2 with ⟨he, _⟩ | ⟨g2, c2, cur2, he, hbg2, hg2, hn2, hc2, hs2, ht2⟩
      · rw [he] at h2; cases h2
      · rcases hm'.2 with ⟨he', _⟩ | ⟨g3, c3, cur3, he', hbg3, hg3, hn3, hc3, hs3, ht3⟩
        · rw [he'] at h2; cases h2
        · rw [he] at h2
          injection he.symm.trans he' with ha hb hc
          injection ha with ha
          injection ha with ha1
          injection h1 with h1
          injection h2 with h2
          have e1 : g1 = g := h1
          have e2 : g2 = g := h2
          subst e1
          subst e2
          subst ha1
          subst hc
          rw [hg1] at hg2
          injection hg2 with hg2
          injection hg2 with hg2
          subst hg2
          have hcc : c1 = c2 := by omega
          subst hcc
          exact ⟨cur3.toList.take (n * 1), by simp; omega, .inr ⟨_, c1, cur3, rfl, hbg, hg3, hn1, hc1, hs3, rfl⟩⟩
  · exact ⟨xs, h0.kept hg (by
      cases hv : v.ownBlock with
      | none => exact .inl rfl
      | some g => exact .inr fun he => hb ⟨g, hv, he.symm⟩)⟩
/-- rows of different types lie in different blocks -/
theorem own_types {w : World} {base base2 : Nat} {e e2 : TypeId} {v u : Value} {n m : Nat} {xs zs : List Value} (h : w.ownsRow base e 1 v n xs) (h2 : w.ownsRow base2 e2 1 u m zs) (hne : e ≠ e2) : ∀ g, v.ownBlock = some g → u.ownBlock ≠ some g := by
  intro g hg hu
  rcases h.2 with ⟨rfl, _⟩ | ⟨g1, c1, cur1, rfl, _, hg1, _⟩
  · cases hg
  · rcases h2.2 with ⟨rfl, _⟩ | ⟨g2, c2, cur2, rfl, _, hg2, _⟩
    · cases hu
    · injection hg with hg
      injection hu with hu
      have e1 : g1 = g := hg
      have e2 : g2 = g := hu
      subst e1
      subst e2
      rw [hg1] at hg2
      injection hg2 with hg2
      injection hg2 with _ h3
      exact hne h3

theorem cell_apart {w w' : World} {u : Value} {p : Addr} (hg : w.grownBy w' u.ownBlock) {c d : Nat} (hu : In u c d) (hp : p.block < w.heap.size) (hs : p.block < c ∨ d ≤ p.block) : w'.cell? p = w.cell? p := by
  have h1 := hg.block p.block hp (fun he => by
    have h2 := hu p.block he.symm
    omega)
  unfold World.cell?
  rw [h1]

set_option maxRecDepth 100000 in
set_option maxHeartbeats 1000000 in
theorem markInt64SS_c (w : World) (base base2 d : Nat) (A : Option Addr) (n cap : Nat) (ys : List RowH) (hl : ys.length = n) (hn : n ≤ 1048576) (hr : ∀ r ∈ ys, r.2.2.length ≤ 1048576) (k : Int) (h0 : 0 ≤ k) (hk : k ≤ 1048576) (ho : w.ownsRow base 36 1 (.slice A n cap) n (ys.map rowV))
    (hin : ∀ y ∈ ys, ∃ xs, w.ownsRow base2 2 1 (rowV y) y.2.2.length xs) (hd : ∀ y ∈ ys, In (rowV y) base2 d) :
    Calls Try.prog 93 #[.slice A n cap, .int .i64 k] w fun e w' => ∃ q : Int, e = .returned (.int .i64 q) ∧ 0 ≤ q ∧ q ≤ 2199023255552 ∧ Spot base2 d w w' := by
  have HD := Lib.hid hd
  have HR := Lib.hid hr
  clear hd hr
  go_enter Try.func93, Try.ntmps93
  go_wp2
  go_loopw [1, 5] (fun q i wr => ∃ (j : Nat) (p : Int), j ≤ n ∧ i = .int .i64 j ∧ q = .int .i64 p ∧ 0 ≤ p ∧ p ≤ k + 1048576 * j ∧ (∀ y ∈ ys, ∃ xs, wr.ownsRow base2 2 1 (rowV y) y.2.2.length xs) ∧ wr.ownsRow base 36 1 (.slice A n cap) n (ys.map rowV) ∧ Spot base2 d w wr) (fun _ i _ => n - (intOf i).toNat)
  case atStart => exact ⟨0, k, Nat.zero_le _, rfl, rfl, h0, by omega, hin, ho, Spot.refl _ _ _⟩
  case round =>
    clear hin ho
    obtain ⟨j, p, hj, rfl, rfl, hp0, hp1, hin, ho, hs⟩ := hrel
    by_cases hlt : j < n
    · obtain ⟨g, c', hv, hbg, hgs⟩ := ho.form (by omega)
      injection hv with hv hv2 hv3
      subst hv
      clear hv2 hv3
      have hjy : j < ys.length := by omega
      have hc1 := own_get ho hjy
      have hm := List.getElem_mem hjy
      obtain ⟨xs, hox⟩ := hin _ hm
      have hrj := HR.out _ hm
      have hdj := HD.out _ hm
      obtain ⟨⟨a, c, l⟩, hxx⟩ : ∃ x, ys[j]'hjy = x := ⟨_, rfl⟩
      rw [hxx] at hc1 hox hrj hdj
      simp only [rowV] at hc1 hox hrj hdj
      have HIN := Lib.hid hin
      clear hxx hm hin
      go_wp2_with fail
      refine (markInt64S_c wr base2 a l.length c xs (by omega) p hp0 (by omega) hox).mono ?_
      rintro e w2 ⟨rfl, ho2, hg2⟩
      have hin2 : ∀ y ∈ ys, ∃ xs, w2.ownsRow base2 2 1 (rowV y) y.2.2.length xs := fun y hy => owned_kept (HIN.out y hy) hox ho2 hg2
      have ho3 := ho.kept hg2 (by
        cases hvv : (Value.slice a l.length c).ownBlock with
        | none => exact .inr (by simp [Value.ownBlock])
        | some g' => exact .inr fun he => own_types hox ho (by decide) g' hvv he)
      have hs2 := hs.trans (Spot.of_grown hg2 hdj)
      have HI2 := Lib.hid hin2
      clear hin2 hc1 hox ho2 hg2 ho
      go_wp2
      go_roundw
      case rel => exact ⟨j + 1, p + l.length, by omega, by go_num, by go_num, by omega, by push_cast; omega, HI2.out, ho3, hs2⟩
      case measure => simp [intOf]; omega
    · have : j = n := by omega
      subst this
      go_wp2
      go_ret
      exact ⟨_, rfl, hp0, by omega, hs⟩

set_option maxRecDepth 100000 in
theorem markGraph_c (w : World) (base base2 d : Nat) (m : Int) (A : Option Addr) (n cap : Nat) (ys : List RowH) (hl : ys.length = n) (hn : n ≤ 1048576) (hr : ∀ r ∈ ys, r.2.2.length ≤ 1048576) (k : Int) (h0 : 0 ≤ k) (hk : k ≤ 1048576) (ho : w.ownsRow base 36 1 (.slice A n cap) n (ys.map rowV))
    (hin : ∀ y ∈ ys, w.ownsRow base2 2 1 (rowV y) y.2.2.length (y.2.2.map (Value.int .i64))) (hd : ∀ y ∈ ys, In (rowV y) base2 d) :
    Calls Try.prog 46 #[.agg #[.int .i64 m, .slice A n cap], .int .i64 k] w fun e w' => ∃ q : Int, e = .returned (.int .i64 q) ∧ 0 ≤ q ∧ q ≤ 2199023255552 ∧ Spot base2 d w w' := by
  have hb := (Below.refl w.heap.size w).alloc (Nat.le_refl _) (Obj.cells #[.int .i64 m, .slice A n cap] 27)
  have HB := Lib.hid hb
  clear hb
  go_enter Try.func46, Try.ntmps46
  go_wp2_with fail
  refine (markInt64SS_c _ base base2 d A n cap ys hl hn hr k h0 hk (own_below ho HB.out (Nat.le_refl _)) (fun y hy => ⟨_, own_below (hin y hy) HB.out (Nat.le_refl _)⟩) hd).mono ?_
  rintro e w' ⟨q, rfl, hq0, hq1, hs⟩
  go_wp2
  go_ret
  exact ⟨q, rfl, hq0, hq1, (Spot.of_below HB.out).trans hs⟩

set_option maxHeartbeats 400000 in
theorem markBoolS_big (w : World) (base : Nat) (A : Option Addr) (n cap : Nat) (xs : List Value) (hn : n ≤ 1099511627776) (k : Int) (h0 : 0 ≤ k) (hk : k ≤ 2199023255552) (ho : w.ownsRow base 4 1 (.slice A n cap) n xs) :
    Calls Try.prog 26 #[.slice A n cap, .int .i64 k] w fun e w' => e = .returned (.int .i64 (k + n)) ∧ w'.ownsRow base 4 1 (.slice A n cap) n (marks (fun q => .bool (q % 3 == 0)) k n) ∧ w.grownBy w' (Value.slice A n cap).ownBlock := by
  have hl : xs.length = n := by simpa using ho.1
  go_enter Try.func26, Try.ntmps26
  go_wp2
  go_loopw [1, 5] (fun q i wr => ∃ j : Nat, j ≤ n ∧ i = .int .i64 j ∧ q = .int .i64 (k + j) ∧ wr.ownsRow base 4 1 (.slice A n cap) n (marks (fun q => .bool (q % 3 == 0)) k j ++ xs.drop j) ∧ w.grownBy wr (Value.slice A n cap).ownBlock) (fun _ i _ => n - (intOf i).toNat)
  case atStart => exact ⟨0, Nat.zero_le _, rfl, by simp, by simpa [marks] using ho, World.grownBy.refl _ _⟩
  case round =>
    clear ho
    obtain ⟨j, hj, rfl, rfl, ho, hg⟩ := hrel
    by_cases hlt : j < n
    · obtain ⟨g, cap', hv, hbg, hgs⟩ := ho.form (by omega)
      injection hv with hv
      subst hv
      have hc := ho.cellAt j (by omega)
      have hf := ho.frozenAt j
      have hs := ho.stored j ((fun q => .bool (q % 3 == 0)) (k + (j : Int)))
      have hcell : ∃ u, wr.cell? ⟨g, j, none⟩ = some u := by
        rw [hc, List.getElem?_append_right (by rw [marks_length]; omega), marks_length, Nat.sub_self, List.getElem?_drop]
        exact ⟨_, List.getElem?_eq_getElem (by omega)⟩
      obtain ⟨u, hcu⟩ := hcell
      have HS := Lib.hid hs
      clear hc hs ho
      go_wp2
      try go_quiet (fail)
      go_wp2
      go_roundw
      case rel =>
        refine ⟨j + 1, by omega, by go_num, by go_num, ?_, only_setCell (p := ⟨g, j, none⟩) hg rfl _⟩
        have h1 := HS.out.1
        rw [marks_set _ _ _ n j hl hlt] at h1
        exact h1
      case measure => simp [intOf]; omega
    · have : j = n := by omega
      subst this
      go_wp2
      go_ret
      exact ⟨rfl, by simpa [List.drop_of_length_le (Nat.le_of_eq hl)] using ho, hg⟩

end Go.Proofs.Ytpdblaldndmdoaa
