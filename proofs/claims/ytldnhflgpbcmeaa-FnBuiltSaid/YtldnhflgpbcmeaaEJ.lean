/-
  Contracts: syndromes and leaders, of the program.
  Conditions: codes of at most 16 digits and 8 rows.
-/
import Derived.Test.YtldnhflgpbcmeaaEI
import Derived.Test.YtldnhflgpbcmeaaRN
namespace Go.Proofs.Ytldnhflgpbcmeaa
open Go.RowKit


set_option maxRecDepth 100000 in
theorem impl_isOdd_w (w : World) (x : Int) (h0 : 0 ≤ x) (h1 : x < 65536) : Calls Try.prog 41 #[.int .i64 x] w fun e w' => e = .returned (.bool (wt x % 2 == 1)) ∧ w = w' := by
  have hb := wt_bd (m := 16) (Nat.le_refl _) h0 h1
  go_enter Try.func41, Try.ntmps41
  go_wp2_with (go_at_call 31; refine (impl_weightOf_w _ _ h0 h1).mono ?_; rintro e w' ⟨rfl, rfl⟩)
  go_ret
  exact ⟨ret_bool rfl, rfl⟩


theorem synK_succ (D : List Int) (x : Int) (k : Nat) : synK D x (k + 1) = if oddAt D x k then synK D x k ||| 2 ^ k else synK D x k := rfl
theorem synK_bd (D : List Int) (x : Int) {k : Nat} (hk : k ≤ 8) : synK D x k < 256 := Nat.lt_of_lt_of_le (syn_lt D x k) (Nat.pow_le_pow_right (by decide) hk)
set_option maxRecDepth 100000 in
set_option maxHeartbeats 1000000 in
theorem impl_syndrome_c (w : World) (B : Nat) (A : Option Addr) (n cap : Nat) (D : List Int) (hl : D.length = n) (hn : n ≤ 8) (hd : RM 16 D) (hx : Sl w B A (D.map (Value.int .i64))) (x : Int) (h0 : 0 ≤ x) (h1 : x < 65536) :
    Calls Try.prog 48 #[.slice A n cap, .int .i64 x] w fun e w' => e = .returned (.int .i64 (synL D x : Int)) ∧ w = w' := by
  have HD := Lib.hid hd
  have HX := Lib.hid hx
  clear hd hx
  go_enter Try.func48, Try.ntmps48
  go_wp2
  go_loop [5, 10] (fun t i => ∃ k : Nat, k ≤ n ∧ i = .int .i64 k ∧ t = .int .i64 (synK D x k : Int)) (fun _ i => n - (intOf i).toNat)
  case atStart => exact ⟨0, Nat.zero_le _, rfl, rfl⟩
  case round =>
    obtain ⟨k, hk, rfl, rfl⟩ := hrel
    by_cases hlt : k < n
    · obtain ⟨b, off, rfl, hbb, hc1⟩ := HX.out.get k (by omega)
      have hg : D[k]'(by omega) = D.getD k 0 := by simp [List.getD, show k < D.length by omega]
      have hr := HD.out k
      have hsu := synK_succ D x k
      have hor := or_step (l := k) (Nat.lt_trans (synK_bd D x (k := k) (by omega)) (by decide)) (by omega)
      have hab : 0 ≤ bits .and .i64 (D.getD k 0) x ∧ bits .and .i64 (D.getD k 0) x < 65536 := by
        obtain ⟨a, ha⟩ : ∃ a : Nat, D.getD k 0 = a := ⟨(D.getD k 0).toNat, by omega⟩
        obtain ⟨c, hc⟩ : ∃ c : Nat, x = c := ⟨x.toNat, by omega⟩
        rw [ha] at hr ⊢
        rw [hc, and_nat a c (by omega) (by omega)]
        have := @Nat.and_le_left a c
        omega
      rw [hg] at hc1
      unfold oddAt at hsu
      obtain ⟨y, hy⟩ : ∃ y, D.getD k 0 = y := ⟨_, rfl⟩
      rw [hy] at hc1 hsu hab
      cases hb : (wt (bits .and .i64 y x) % 2 == 1)
      · rw [hb] at hsu
        have HB := Lib.hid hb
        have HSU := Lib.hid hsu
        clear hb hsu hr hor hg hy
        go_wp2_with (go_at_call 41; refine (impl_isOdd_w _ _ hab.1 hab.2).mono ?_; rintro e w' ⟨rfl, rfl⟩; rw [HB.out])
        go_round
        case rel => exact ⟨k + 1, by omega, by go_num, by rw [HSU.out]; rfl⟩
        case measure => simp [intOf]; omega
      · rw [hb, if_pos rfl] at hsu
        rw [← hsu] at hor
        have HB := Lib.hid hb
        have HOR := Lib.hid hor
        clear hb hsu hr hor hg hy
        go_wp2_with (go_at_call 41; refine (impl_isOdd_w _ _ hab.1 hab.2).mono ?_; rintro e w' ⟨rfl, rfl⟩; rw [HB.out])
        go_round
        case rel => exact ⟨k + 1, by omega, by go_num, congrArg (Value.int .i64) HOR.out⟩
        case measure => simp [intOf]; omega
    · obtain rfl : k = n := by omega
      go_wp2
      go_ret
      exact ⟨ret_int (by unfold synL; rw [hl]), rfl⟩


theorem weightOf_at {w : World} {x : Int} {q : Nat} (h0 : 0 ≤ x) (h1 : x < 65536) : Calls Try.prog 31 #[.int .i64 x] (w.drewN q) fun e w' => e = .returned (.int .i64 (wt x)) ∧ ∃ k, w' = w.drewN k := by
  refine (impl_weightOf_w _ x h0 h1).mono ?_
  rintro e w' ⟨rfl, rfl⟩
  exact ⟨rfl, q, rfl⟩
theorem leadK_succ (D : List Int) (k : Nat) : leadK D (k + 1) = if (leadK D k).getD (synL D (k : Int)) 0 < 0 ∨ wt (k : Int) < wt ((leadK D k).getD (synL D (k : Int)) 0) then (leadK D k).set (synL D (k : Int)) (k : Int) else leadK D k := rfl
set_option maxRecDepth 100000 in
set_option maxHeartbeats 2000000 in
theorem impl_leaders_c (w : World) (M : Nat) (hM : M ≤ 16) (A : Option Addr) (n cap : Nat) (D : List Int) (hl : D.length = n) (hn : n ≤ 8) (hd : RM 16 D) (hx : Sl w w.heap.size A (D.map (Value.int .i64))) :
    Calls Try.prog 49 #[.agg #[.int .i64 (M : Int), .slice A n cap]] w fun e w' => ∃ v, e = .returned v ∧ Ow w' w.heap.size 2 v ((leadK D (2 ^ M)).map (Value.int .i64)) ∧ Below w.heap.size w w' := by
  obtain ⟨N, hN⟩ : ∃ N, 2 ^ n = N := ⟨_, rfl⟩
  have hp := pow8 hn
  rw [hN] at hp
  obtain ⟨W2, hW2⟩ : ∃ W2, 2 ^ M = W2 := ⟨_, rfl⟩
  have hW2b : W2 ≤ 65536 := by rw [← hW2]; exact pow16N hM
  have hsh : wrap64 (2 ^ M) = (W2 : Int) := by rw [(wrap16 (M := M) hM).2.1, ← hW2]; push_cast; rfl
  rw [hW2]
  obtain ⟨w1, e1⟩ : ∃ q : World, q = w.alloc (.cells #[.int .i64 (M : Int), .slice A n cap] 27) := ⟨_, rfl⟩
  have b1 : Below w.heap.size w w1 := by rw [e1]; exact (Below.refl _ _).alloc (Nat.le_refl _) _
  have z1 : w1.heap.size = w.heap.size + 1 := by rw [e1]; simp
  have hq : Obj w1 w.heap.size 27 #[.int .i64 (M : Int), .slice A n cap] := by rw [e1]; exact Obj.new _ _ _
  have hx1 := (hx.below b1).more b1.size
  obtain ⟨⟨c0, c1⟩, -⟩ := hq.two
  have HX := Lib.hid hx1
  have HQ := Lib.hid hq
  have HD := Lib.hid hd
  have HSH := Lib.hid hsh
  clear hx hx1 hq hd hW2 hsh
  go_enter Try.func49, Try.ntmps49
  go_wp2_with (rw [← e1]; clear e1)
  clear c0 c1
  refine (impl_messages_c w1 (M : Int) A n cap N hn hN).mono ?_
  rintro e w2 ⟨rfl, b2⟩
  go_wp2_with fail
  refine (impl_none_c w2 N hp.1 hp.2).mono ?_
  rintro e w3 ⟨v, rfl, ho, b3⟩
  obtain ⟨S, kc, rfl, hp3⟩ := ho.opn
  rw [List.length_replicate] at hp3 ⊢
  obtain ⟨g, kc, hv2, hbg, hgs⟩ := hp3.form hp.1
  cases hv2
  have z2 := b2.size
  have z3 := b3.size
  have B3 := b2.trans (b3.mono b2.size)
  have hq := HQ.out.below B3 (by omega)
  obtain ⟨⟨c0, c1⟩, -⟩ := hq.two
  have hl0 : List.replicate N (-1) = leadK D 0 := by show _ = List.replicate (2 ^ D.length) (-1); rw [hl, hN]
  rw [hl0] at hp3
  have hp3 := own_base (base' := w1.heap.size) hp3 (by omega)
  have HN := Lib.hid (show 2 ^ D.length = N by rw [hl, hN])
  clear ho hq b2 b3 hl0 hN
  go_wp2_with fail
  rw [HSH.out]
  clear c0 c1
  go_loopw [12] (fun i wr => ∃ k : Nat, k ≤ W2 ∧ i = .int .i64 k ∧ wr.ownsRow w1.heap.size 2 1 (.slice (some ⟨g, 0, none⟩) N kc) N ((leadK D k).map (Value.int .i64)) ∧ Below w1.heap.size w1 wr) (fun i _ => W2 - (intOf i).toNat)
  case atStart => exact ⟨0, Nat.zero_le _, rfl, hp3, B3⟩
  case round =>
    clear hp3 B3
    obtain ⟨k, hk, rfl, ho, hb⟩ := hrel
    have zr := hb.size
    by_cases hlt : k < W2
    · have hq := HQ.out.below hb (by omega)
      obtain ⟨⟨c0, c1⟩, -⟩ := hq.two
      have hxr := (HX.out.below hb).more hb.size
      have hsb : synL D (k : Int) < N := by rw [← HN.out]; exact syn_lt _ _ _
      have hsu := leadK_succ D k
      have hli := lead_is D k (synL D (k : Int)) (syn_lt _ _ _)
      have HSY := Lib.hid (fun W (hW : Sl W wr.heap.size A (D.map (Value.int .i64))) => impl_syndrome_c W wr.heap.size A n cap D hl hn HD.out hW (k : Int) (by omega) (by omega))
      obtain ⟨s, hs⟩ : ∃ s, synL D (k : Int) = s := ⟨_, rfl⟩
      rw [hs] at hsb hsu hli HSY
      have cs := row_cell ho hsb
      have hfz := ho.frozenAt s
      have hst := ho.stored s (.int .i64 (k : Int))
      have hwk := wt_bd (m := 16) (Nat.le_refl _) (x := (k : Int)) (by omega) (by omega)
      have HLL := Lib.hid hli
      obtain ⟨l, hll⟩ : ∃ l, (leadK D k).getD s 0 = l := ⟨_, rfl⟩
      rw [hll] at cs hsu hli
      have HO := Lib.hid ho
      have HST := Lib.hid hst
      have i1 : (0 : Int) ≤ (s : Int) := by omega
      have i2 : (s : Int) < (N : Int) := by omega
      clear ho hst hs hq
      by_cases hneg : l < 0
      · rw [if_pos (.inl hneg)] at hsu
        have HSU := Lib.hid hsu
        have d1 : decide (l < 0) = true := by simpa using hneg
        clear hsu hli
        go_wp2_with (go_at_call 48; refine (HSY.out _ hxr).mono ?_; rintro e w' ⟨rfl, rfl⟩)
        go_quiet (fail)
        go_wp2
        go_roundw
        case rel =>
          refine ⟨k + 1, by omega, by go_num, ?_, (below_drewN hb _).setCell (p := ⟨g, s, none⟩) (by simp only []; omega) _⟩
          rw [HSU.out, List.map_set]
          exact HST.out.1
        case measure => simp [intOf]; omega
      · have hlb : 0 ≤ l ∧ l < 65536 := by
          rcases hli with ⟨h1, _⟩ | ⟨x, h1, h2, _⟩ <;> omega
        have hwl := wt_bd (m := 16) (Nat.le_refl _) (x := l) hlb.1 (by omega)
        have d1 : decide (l < 0) = false := by simpa using hlb.1
        by_cases hlt2 : wt (k : Int) < wt l
        · rw [if_pos (.inr hlt2)] at hsu
          have HSU := Lib.hid hsu
          have d2 : decide (wt (k : Int) < wt l) = true := by simpa using hlt2
          clear hsu hli
          go_wp2_with (go_at_call 48; refine (HSY.out _ hxr).mono ?_; rintro e w' ⟨rfl, rfl⟩)
          go_quiet ((go_at_call 31; exact weightOf_at (by omega) (by omega)))
          go_wp2
          go_roundw
          case rel =>
            refine ⟨k + 1, by omega, by go_num, ?_, (below_drewN hb _).setCell (p := ⟨g, s, none⟩) (by simp only []; omega) _⟩
            rw [HSU.out, List.map_set]
            exact HST.out.1
          case measure => simp [intOf]; omega
        · rw [if_neg (by omega)] at hsu
          have HSU := Lib.hid hsu
          have d2 : decide (wt (k : Int) < wt l) = false := by simpa using hlt2
          clear hsu hli
          go_wp2_with (go_at_call 48; refine (HSY.out _ hxr).mono ?_; rintro e w' ⟨rfl, rfl⟩)
          go_quiet ((go_at_call 31; exact weightOf_at (by omega) (by omega)))
          go_wp2
          go_roundw
          case rel => exact ⟨k + 1, by omega, by go_num, by rw [HSU.out]; exact HO.out, below_drewN hb _⟩
          case measure => simp [intOf]; omega
    · obtain rfl : k = W2 := by omega
      go_wp2
      go_ret
      refine ⟨_, rfl, ?_, b1.trans (hb.mono (by omega))⟩
      unfold Ow
      rw [List.length_map, leadK_len, HN.out]
      exact own_base ho (by omega)

end Go.Proofs.Ytldnhflgpbcmeaa
