/-
  Contracts: two rows of ints become one new row.
  Conditions: each of 1 to 524288 ints.
-/
import Derived.Test.YtkmfjadlobpbkaaMF
namespace Go.Proofs.Ytkmfjadlobpbkaa
open Go.RowKit Go.Shelf Go.Sort Go.Lib

theorem zeroCells_size1 (z : Value) (n : Nat) : (Builtin.zeroCells #[z] n).size = n := by simp [Builtin.zeroCells]
theorem Grow_int_own (w : World) (n : Nat) (h1 : 1 ≤ n) (hn : n ≤ 1048576) :
    Calls Try.prog 37 #[.slice none 0 0, .int .i64 n] w fun e w' => ∃ v, e = .returned v ∧ w'.ownsRow w.heap.size 3 1 v 0 [] ∧ Below w.heap.size w w' := by
  refine (Grow_int_c w n h1 hn).mono ?_
  rintro e w' ⟨rfl, rfl⟩
  have hGn : n ≤ grownCap w n 0 3 := grownCap_ge w _ _ _
  have hG := grownCap_le_maxLen w n 0 3 (by unfold maxLen; omega)
  obtain ⟨C, hC⟩ : ∃ C, C = Builtin.zeroCells #[Value.int .i64 0] n ++ Builtin.zeroCells #[Value.int .i64 0] (grownCap w n 0 3 - n) := ⟨_, rfl⟩
  have hCs : C.size = grownCap w n 0 3 * 1 := by rw [hC, Array.size_append, zeroCells_size1, zeroCells_size1]; omega
  rw [← hC]
  have hb : w.heap.size = w.drew.heap.size := rfl
  refine ⟨_, rfl, ⟨by simp, Or.inr ⟨w.heap.size, grownCap w n 0 3, C, rfl, Nat.le_refl _, ?_, Nat.zero_le _, hG, hCs, by simp⟩⟩, ?_⟩
  · show (w.drew.heap.push _)[w.drew.heap.size]? = _
    exact Array.getElem?_push_size
  · exact below_undrew ((RowKit.Below.refl _ _).alloc (Nat.le_refl _) _)

/-- append of some one-cell elements, wherever they lie, to a row of the call's own -/
theorem appNo {P : Program} {t e : TypeId} (ht : P.underlying t = some (.slice e)) {z : Value} {bytes : Nat} (hi : (P.info? e).map (fun i => (i.zero, i.size, i.bytes)) = some (some z, 1, bytes)) (hz : z.cells.size = 1) (hby : bytes ≤ 64)
    {w : World} {ops : Array Oper} {rest : List Oper} {o : Oper} {a : Act} {Q : Exit → Act → World → Prop} (hgd : o.guard = none) (s x : Operand)
    (ho : o.op = .call { callee := .builtin .append, args := #[s, x], argTypes := #[t, t] }) (base : Nat) (v : Value) (n : Nat) (xs : List Value) (hs : a.eval s = v) (hown : w.ownsRow base e 1 v n xs)
    (g off m c : Nat) (news : List Value) (hx : a.eval x = .slice (some ⟨g, off, none⟩) m c) (hm : news.length = m) (hc : ∀ j u, news[j]? = some u → w.cell? ⟨g, off + j, none⟩ = some u) (h1 : ∀ u ∈ news, u.oneCell' = true)
    (hlen : n + m ≤ 1099511627776) (hbase : base ≤ w.heap.size)
    (h : ∀ v' w', w'.ownsRow base e 1 v' (n + m) (xs ++ news) → Below base w w' → w.grownBy w' v.ownBlock → wpList P ops Q rest (a.put o.dst v') w') : wpList P ops Q (o :: rest) a w := by
  obtain ⟨i, hi1, hi2, hi3, hi4⟩ := info_ok hi
  refine wpList_append_own (P := P) w hgd s x t ho base e i z 1 bytes ht hi1 hi2 hi3 hi4 hz (by decide) v n xs hs hown ⟨g, off, none⟩ m c news hx (by omega) ?_ h1 ?_ ?_ hbase ?_
  · intro j u hu
    rw [Addr.add_lit]
    exact hc j u hu
  · unfold maxLen; omega
  · have h2 : (n + m) * bytes ≤ 1099511627776 * 64 := Nat.mul_le_mul hlen hby
    omega
  · intro v' w' h2 h3 _
    exact h v' w' h2 ((Below.refl base w).grown h3 hbase fun k hk => (hown.lt k hk).1) h3


set_option maxRecDepth 100000 in
set_option maxHeartbeats 4000000 in
theorem Concat_int_c (w : World) (b cap n1 c1 n2 c2 : Nat) (A1 A2 : Option Addr) (xs ys : List Int) (hx : xs.length = n1) (hy : ys.length = n2) (h1 : 1 ≤ n1) (h2 : 1 ≤ n2) (hn1 : n1 ≤ 524288) (hn2 : n2 ≤ 524288)
    (hb : b < w.heap.size) (r1 : w.cell? ⟨b, 0, none⟩ = some (.slice A1 n1 c1)) (r2 : w.cell? ⟨b, 1, none⟩ = some (.slice A2 n2 c2))
    (s1 : Sl w w.heap.size A1 (xs.map (Value.int .i64))) (s2 : Sl w w.heap.size A2 (ys.map (Value.int .i64))) :
    Calls Try.prog 31 #[.slice (some ⟨b, 0, none⟩) 2 cap] w fun e w' => ∃ v, e = .returned v ∧ w'.ownsRow w.heap.size 3 1 v (n1 + n2) ((xs ++ ys).map (Value.int .i64)) ∧ Below w.heap.size w w' := by
  obtain ⟨g1, o1, rfl, hg1, k1⟩ := s1.at_ (k := 0) (by simp; omega)
  obtain ⟨g2, o2, rfl, hg2, k2⟩ := s2.at_ (k := 0) (by simp; omega)
  have S1 := Lib.hid k1
  have S2 := Lib.hid k2
  have HX := Lib.hid hx
  have HY := Lib.hid hy
  clear s1 s2 hx hy k1 k2
  go_enter Try.func31, Try.ntmps31
  go_wp2
  go_loop [3, 11] (fun s i => (s = .int .i64 0 ∧ i = .int .i64 0) ∨ (s = .int .i64 n1 ∧ i = .int .i64 1) ∨ (s = .int .i64 ((n1 + n2 : Nat) : Int) ∧ i = .int .i64 2)) (fun _ i => 2 - (RowKit.intOf i).toNat)
  case atStart => exact .inl ⟨rfl, rfl⟩
  case round =>
    rcases hrel with ⟨rfl, rfl⟩ | ⟨rfl, rfl⟩ | ⟨rfl, rfl⟩
    · go_wp2
      go_round
      case rel => exact .inr (.inl ⟨by go_num, by go_num⟩)
      case measure => simp [RowKit.intOf]
    · go_wp2
      go_round
      case rel => exact .inr (.inr ⟨by go_num, by go_num⟩)
      case measure => simp [RowKit.intOf]
    · obtain ⟨N, hN⟩ : ∃ N, n1 + n2 = N := ⟨_, rfl⟩
      rw [hN]
      have HN := Lib.hid hN
      have hN1 : 1 ≤ N := by omega
      have hN2 : N ≤ 1048576 := by omega
      clear hN
      go_wp2_with fail
      refine (Grow_int_own w N hN1 (by omega)).mono ?_
      rintro e w1 ⟨v, rfl, ho, b1⟩
      go_wp2
      go_loopw [6, 27] (fun u i wr => RowKit.Below w.heap.size w wr ∧ ((i = .int .i64 0 ∧ wr.ownsRow w.heap.size 3 1 u 0 []) ∨ (i = .int .i64 1 ∧ wr.ownsRow w.heap.size 3 1 u n1 (xs.map (Value.int .i64))) ∨ (i = .int .i64 2 ∧ wr.ownsRow w.heap.size 3 1 u N ((xs ++ ys).map (Value.int .i64))))) (fun _ i _ => 2 - (RowKit.intOf i).toNat)
      case atStart => exact ⟨b1, .inl ⟨rfl, ho⟩⟩
      case round =>
        obtain ⟨hbw, ⟨rfl, hu⟩ | ⟨rfl, hu⟩ | ⟨rfl, hu⟩⟩ := hrel
        · have r1w := (hbw.cell (p := ⟨b, 0, none⟩) hb).trans r1
          clear r1 r2
          go_wp2_with (at_builtin; refine appNo (P := Try.prog) rfl rfl rfl (by decide) rfl _ _ rfl w.heap.size _ _ _ rfl hu g1 o1 n1 c1 (xs.map (Value.int .i64)) rfl (by rw [List.length_map]; exact HX.out) (fun j u' hu' => (hbw.cell (p := ⟨g1, o1 + j, none⟩) hg1).trans (S1.out j u' hu')) (by intro u' hu'; obtain ⟨t, _, rfl⟩ := List.mem_map.1 hu'; rfl) (by omega) hbw.size ?_; rintro v' w' ho' hb' -)
          go_roundw
          case rel => exact ⟨hbw.trans hb', .inr (.inl ⟨by go_num, by simpa using ho'⟩)⟩
          case measure => simp [RowKit.intOf]
        · have r2w := (hbw.cell (p := ⟨b, 1, none⟩) hb).trans r2
          clear r1 r2
          go_wp2_with (at_builtin; refine appNo (P := Try.prog) rfl rfl rfl (by decide) rfl _ _ rfl w.heap.size _ _ _ rfl hu g2 o2 n2 c2 (ys.map (Value.int .i64)) rfl (by rw [List.length_map]; exact HY.out) (fun j u' hu' => (hbw.cell (p := ⟨g2, o2 + j, none⟩) hg2).trans (S2.out j u' hu')) (by intro u' hu'; obtain ⟨t, _, rfl⟩ := List.mem_map.1 hu'; rfl) (by omega) hbw.size ?_; rintro v' w' ho' hb' -)
          go_roundw
          case rel => exact ⟨hbw.trans hb', .inr (.inr ⟨by go_num, by rw [HN.out] at ho'; simpa using ho'⟩)⟩
          case measure => simp [RowKit.intOf]
        · clear r1 r2
          go_wp2_with fail
          go_ret
          exact ⟨_, rfl, by rw [HN.out]; exact hu, hbw⟩

end Go.Proofs.Ytkmfjadlobpbkaa
