/-
  Contracts: rows of rows and graphs marked.
  Conditions: lengths at most 1048576.
-/
import Derived.Test.YtlcnfaodkglhpaaFR
namespace Go.Proofs.Ytlcnfaodkglhpaa
open Go.RowKit

/-- only blocks from c to d are turned -/
structure Spot (c d : Nat) (w w' : World) : Prop where
  os : w'.os = w.os
  tape : w'.tape = w.tape
  output : w'.output = w.output
  size : w.heap.size ≤ w'.heap.size
  block : ∀ i, i < w.heap.size → (i < c ∨ d ≤ i) → w'.heap[i]? = w.heap[i]?
theorem Spot.refl (c d : Nat) (w : World) : Spot c d w w := ⟨rfl, rfl, rfl, Nat.le_refl _, fun _ _ _ => rfl⟩
theorem Spot.trans {c d : Nat} {w w1 w2 : World} (h : Spot c d w w1) (g : Spot c d w1 w2) : Spot c d w w2 :=
  ⟨g.os.trans h.os, g.tape.trans h.tape, g.output.trans h.output, Nat.le_trans h.size g.size, fun i hi hc => (g.block i (Nat.lt_of_lt_of_le hi h.size) hc).trans (h.block i hi hc)⟩
theorem Spot.of_grown {c d : Nat} {w w' : World} {v : Value} (h : w.grownBy w' v.ownBlock) (hv : In v c d) : Spot c d w w' :=
  ⟨h.os, h.tape, h.output, h.size, fun i hi hc => h.block i hi fun he => by
    have := hv i he.symm
    omega⟩
theorem Spot.of_below {c d : Nat} {w w' : World} (h : Below w.heap.size w w') : Spot c d w w' := ⟨h.os, h.tape, h.output, h.size, fun i hi _ => h.block i hi⟩
theorem own_spot {w w' : World} {base : Nat} {e : TypeId} {size n : Nat} {v : Value} {xs : List Value} {a b c d : Nat} (h : w.ownsRow base e size v n xs) (hs : Spot c d w w') (hv : In v a b) (ho : b ≤ c ∨ d ≤ a) : w'.ownsRow base e size v n xs := by
  refine ⟨h.1, ?_⟩
  rcases h.2 with hn | ⟨g, cap, cur, rfl, hbg, hg, rest⟩
  · exact .inl hn
  · refine .inr ⟨g, cap, cur, rfl, hbg, ?_, rest⟩
    have h1 := hv g rfl
    rw [hs.block g (Array.getElem?_eq_some_iff.1 hg).1 (by omega)]
    exact hg
theorem cell_spot {w w' : World} {p : Addr} {c d : Nat} (hs : Spot c d w w') (hp : p.block < w.heap.size) (ho : p.block < c ∨ d ≤ p.block) : w'.cell? p = w.cell? p := by
  unfold World.cell?
  rw [hs.block p.block hp ho]
theorem below_spot {B c d : Nat} {w w1 w' : World} (h : Below B w w1) (hs : Spot c d w1 w') (hc : B ≤ c) (hz : B ≤ w1.heap.size) : Below B w w' :=
  ⟨hs.os.trans h.os, hs.tape.trans h.tape, hs.output.trans h.output, Nat.le_trans h.size hs.size, fun i hi => (hs.block i (by omega) (.inl (by omega))).trans (h.block i hi)⟩
/-- rows stay rows where one of them is written -/
theorem owned_kept {w w' : World} {base : Nat} {e : TypeId} {v : Value} {n m cap : Nat} {A : Option Addr} {ms zs : List Value} (h : ∃ xs, w.ownsRow base e 1 v n xs) (hm : w.ownsRow base e 1 (.slice A m cap) m ms) (hm' : w'.ownsRow base e 1 (.slice A m cap) m zs) (hg : w.grownBy w' (Value.slice A m cap).ownBlock) : ∃ xs, w'.ownsRow base e 1 v n xs := by
  obtain ⟨xs, h0⟩ := h
  by_cases hb : ∃ g, v.ownBlock = some g ∧ (Value.slice A m cap).ownBlock = some g
  · obtain ⟨g, h1, h2⟩ := hb
    rcases h0.2 with ⟨rfl, hn⟩ | ⟨g1, c1, cur1, rfl, hbg, hg1, hn1, hc1, hs1, ht1⟩
    · cases h1
    · rcases hm.2 with ⟨he, _⟩ | ⟨g2, c2, cur2, he, hbg2, hg2, hn2, hc2, hs2, ht2⟩
      · rw [he] at h2; cases h2
      · rcases hm'.2 with ⟨he', _⟩ | ⟨g3, c3, cur3, he', hbg3, hg3, hn3, hc3, hs3, ht3⟩
        · rw [he'] at h2; cases h2
        · rw [he] at h2
          injection he.symm.trans he' with ha hb hc
          injection ha with ha
          injection ha with ha1
          injection h1 with h1
          injection h2 with h2
          have e1 : g1 = g := h1
          have e2 : g2 = g := h2
          subst e1
          subst e2
          subst ha1
          subst hc
          rw [hg1] at hg2
          injection hg2 with hg2
          injection hg2 with hg2
          subst hg2
          have hcc : c1 = c2 := by omega
          subst hcc
          exact ⟨cur3.toList.take (n * 1), by simp; omega, .inr ⟨_, c1, cur3, rfl, hbg, hg3, hn1, hc1, hs3, rfl⟩⟩
  · exact ⟨xs, h0.kept hg (by
      cases hv : v.ownBlock with
      | none => exact .inl rfl
      | some g => exact .inr fun he => hb ⟨g, hv, he.symm⟩)⟩
/-- rows of different types lie in different blocks -/
theorem own_types {w : World} {base base2 : Nat} {e e2 : TypeId} {v u : Value} {n m : Nat} {xs zs : List Value} (h : w.ownsRow base e 1 v n xs) (h2 : w.ownsRow base2 e2 1 u m zs) (hne : e ≠ e2) : ∀ g, v.ownBlock = some g → u.ownBlock ≠ some g := by
  intro g hg hu
  rcases h.2 with ⟨rfl, _⟩ | ⟨g1, c1, cur1, rfl, _, hg1, _⟩
  · cases hg
  · rcases h2.2 with ⟨rfl, _⟩ | ⟨g2, c2, cur2, rfl, _, hg2, _⟩
    · cases hu
    · injection hg with hg
      injection hu with hu
      have e1 : g1 = g := hg
      have e2 : g2 = g := hu
      subst e1
      subst e2
      rw [hg1] at hg2
      injection hg2 with hg2
      injection hg2 with _ h3
      exact hne h3

theorem cell_apart {w w' : World} {u : Value} {p : Addr} (hg : w.grownBy w' u.ownBlock) {c d : Nat} (hu : In u c d) (hp : p.block < w.heap.size) (hs : p.block < c ∨ d ≤ p.block) : w'.cell? p = w.cell? p := by
  have h1 := hg.block p.block hp (fun he => by
    have h2 := hu p.block he.symm
    omega)
  unfold World.cell?
  rw [h1]




set_option maxHeartbeats 400000 in
theorem markBoolS_big (w : World) (base : Nat) (A : Option Addr) (n cap : Nat) (xs : List Value) (hn : n ≤ 1099511627776) (k : Int) (h0 : 0 ≤ k) (hk : k ≤ 2199023255552) (ho : w.ownsRow base 4 1 (.slice A n cap) n xs) :
    Calls Try.prog 40 #[.slice A n cap, .int .i64 k] w fun e w' => e = .returned (.int .i64 (k + n)) ∧ w'.ownsRow base 4 1 (.slice A n cap) n (marks (fun q => .bool (q % 3 == 0)) k n) ∧ w.grownBy w' (Value.slice A n cap).ownBlock := by
  have hl : xs.length = n := by simpa using ho.1
  go_enter Try.func40, Try.ntmps40
  go_wp2
  go_loopw [1, 5] (fun q i wr => ∃ j : Nat, j ≤ n ∧ i = .int .i64 j ∧ q = .int .i64 (k + j) ∧ wr.ownsRow base 4 1 (.slice A n cap) n (marks (fun q => .bool (q % 3 == 0)) k j ++ xs.drop j) ∧ w.grownBy wr (Value.slice A n cap).ownBlock) (fun _ i _ => n - (intOf i).toNat)
  case atStart => exact ⟨0, Nat.zero_le _, rfl, by simp, by simpa [marks] using ho, World.grownBy.refl _ _⟩
  case round =>
    clear ho
    obtain ⟨j, hj, rfl, rfl, ho, hg⟩ := hrel
    by_cases hlt : j < n
    · obtain ⟨g, cap', hv, hbg, hgs⟩ := ho.form (by omega)
      injection hv with hv
      subst hv
      have hc := ho.cellAt j (by omega)
      have hf := ho.frozenAt j
      have hs := ho.stored j ((fun q => .bool (q % 3 == 0)) (k + (j : Int)))
      have hcell : ∃ u, wr.cell? ⟨g, j, none⟩ = some u := by
        rw [hc, List.getElem?_append_right (by rw [marks_length]; omega), marks_length, Nat.sub_self, List.getElem?_drop]
        exact ⟨_, List.getElem?_eq_getElem (by omega)⟩
      obtain ⟨u, hcu⟩ := hcell
      have HS := Lib.hid hs
      clear hc hs ho
      go_wp2
      try go_quiet (fail)
      go_wp2
      go_roundw
      case rel =>
        refine ⟨j + 1, by omega, by go_num, by go_num, ?_, only_setCell (p := ⟨g, j, none⟩) hg rfl _⟩
        have h1 := HS.out.1
        rw [marks_set _ _ _ n j hl hlt] at h1
        exact h1
      case measure => simp [intOf]; omega
    · have : j = n := by omega
      subst this
      go_wp2
      go_ret
      exact ⟨rfl, by simpa [List.drop_of_length_le (Nat.le_of_eq hl)] using ho, hg⟩

end Go.Proofs.Ytlcnfaodkglhpaa
