/-
  Contracts: whole numbers in decimal, of the reference.
  Conditions: numbers from -1000000000000000 to 1000000000000000.
-/
import Derived.Test.YtajobeajmndglaaDoorDE
namespace Go.Proofs.YtajobeajmndglaaDoor
open Go.RowKit

theorem neg_back (n : Nat) (h : 1 ≤ n) : strOfNums (45 :: decI n) = decZ (-(n : Int)) := by
  have e : strOfNums (45 :: decI n) = ⟨#[45]⟩ ++ strOfNums (decI n) := by
    unfold strOfNums
    apply ByteArray.ext
    simp
  rw [e, dec_back, decZ_neg n h]
  apply ByteArray.ext
  simp [decS]
set_option maxRecDepth 100000 in
theorem conv_neg {w : World} {base K n : Nat} {L : List Int} {v : Value} (hK : L.length = K) (hf : decI n = L) (hn : 1 ≤ n) (ho : Ow w base 5 v ((45 :: L).map (Value.int .u8))) : (convert 72 9 v).run Tryd.prog w = .ok (.string (decZ (-(n : Int)))) w := by
  obtain ⟨A, cap, rfl, hp⟩ := ho.opn
  have hl : (45 :: L : List Int).length = K + 1 := by rw [List.length_cons, hK]
  rw [hl] at hp ⊢
  obtain ⟨g, c', hv, hbg, hgs⟩ := hp.form (by omega)
  injection hv with hv
  subst hv
  have hcv := run_convert_bytes_arg (P := Tryd.prog) w 72 5 Tryd.underlying72 Tryd.underlying5 g 0 (K + 1) cap (45 :: L) (by rw [List.length_cons, hK]) (fun i hi => by
    rw [Nat.zero_add, World.ownsRow.cellAt hp i (by omega)]
    cases i with
    | zero => rfl
    | succ i =>
      have hil : i < L.length := by omega
      simp [List.getD, hil]) 9 Tryd.underlying9
  rw [← hf, neg_back n hn] at hcv
  exact hcv

set_option maxRecDepth 100000 in
set_option maxHeartbeats 1000000 in
theorem spec_l01DecM_c (w : World) (n : Nat) (hn1 : 1 ≤ n) (hn : n ≤ 1000000000000000) : Calls Tryd.prog 42 #[.int .i64 (-(n : Int))] w fun e w' => e = .returned (.string (decZ (-(n : Int)))) ∧ Below w.heap.size w w' := by
  go_enter Tryd.func42, Tryd.ntmps42
  go_wp2
  go_loopw [3, 4] (fun v i wr => ∃ (q : Nat) (L : List Int), i = .int .i64 (-(q : Int)) ∧ Hid (DecAt n q L) ∧ L.length ≤ 16 ∧ q < 10 ^ (16 - L.length) ∧ Hid (Ow wr w.heap.size 5 v (u8V L)) ∧ Below w.heap.size w wr) (fun v i _ => (-(intOf i)).toNat + if lenV v = 0 then 1 else 0)
  case atStart => exact ⟨n, [], rfl, Lib.hid (.inl ⟨rfl, rfl⟩), by simp, by simp; omega, Lib.hid (own_empty _ _ _ (Nat.le_refl _)), (Below.refl _ _).alloc (Nat.le_refl _) _⟩
  case round =>
    obtain ⟨q, L, rfl, HD, hlen, hpw, HO, hb⟩ := hrel
    have hz := hb.size
    obtain ⟨A, cap, rfl, hp⟩ := HO.out.opn
    obtain ⟨K, hK⟩ : ∃ K, L.length = K := ⟨_, rfl⟩
    rw [hK] at hp hlen hpw ⊢
    have hq16 := pow_all hpw
    have hst16 := fun h => pow_step hpw h
    have hen16 := fun h => pow_end hpw h
    have HS16 := Lib.hid hst16
    have HE16 := Lib.hid hen16
    clear hst16 hen16 hpw
    have HP := Lib.hid hp
    have HK := Lib.hid hK
    clear hp hK HO
    by_cases hgo : K = 0 ∨ (K ≠ 0 ∧ q ≠ 0)
    · have hK15 : K < 16 := by
        rcases Nat.lt_or_ge K 16 with h | h
        · exact h
        · have := HE16.out (by omega)
          omega
      have hLe : L = [] ∨ q ≠ 0 := by
        rcases hgo with h | h
        · exact .inl (List.eq_nil_of_length_eq_zero (by rw [HK.out]; exact h))
        · exact .inr h.2
      have hone : ∀ u ∈ u8V L, u.oneCell' = true := one_int
      have hsl := fun v => (sl_of_own HP.out).alloc (Nat.le_refl _) (.cells #[.int .u8 v] 5)
      have hnew : ∀ v : Int, Ow (wr.alloc (.cells #[.int .u8 v] 5)) w.heap.size 5 (.slice (some ⟨wr.heap.size, 0, none⟩) 1 1) [.int .u8 v] := fun v => World.ownsRow_lit wr #[.int .u8 v] 1 hz (by decide) rfl
      have hd := decAt_step HD.out hLe
      have HN := Lib.hid hnew
      have HSL := Lib.hid hsl
      have HON := Lib.hid hone
      have hq10 : (q : Int) % 10 < 10 := by omega
      clear hnew hsl hone hLe HD
      rcases hgo with h | h
      case' inl =>
        subst h
        have h0 : ((((0 : Nat) : Int)) == 0) = true := rfl
      case' inr =>
        obtain ⟨hk1, hq1⟩ := h
        have h0 : ((-(q : Int)) == 0) = false := by rw [beq_eq_false_iff_ne]; omega
        have h00 : ((K : Int) == 0) = false := by rw [beq_eq_false_iff_ne]; omega
      all_goals
        by_cases hdz : (q : Int) % 10 = 0
        · rw [hdz, Int.add_zero] at hd
          have HS := Lib.hid hd
          clear hd
          go_wp2_with (at_builtin; go_must (refine appS Tryd.underlying72 infoUint8 rfl (by decide) rfl _ _ rfl w.heap.size _ [Value.int .u8 48] rfl (HN.out 48) _ A _ cap (u8V L) rfl (by unfold u8V; rw [List.length_map]; exact HK.out) (HSL.out 48) HON.out (by simp <;> omega) (by simp <;> omega) ?_); intro v' w1 ho1 hb1)
          go_roundw
          case rel =>
            refine ⟨q / 10, 48 :: L, by go_num, HS, by rw [List.length_cons, HK.out]; omega, by rw [List.length_cons, HK.out]; exact HS16.out hK15, Lib.hid ho1, (hb.alloc hz _).trans hb1⟩
          case measure =>
            obtain ⟨A', cap', rfl, _⟩ := Ow.sl ho1
            simp [intOf, lenV]
            omega
        · have HS := Lib.hid hd
          have hdp : 0 < (q : Int) % 10 := by omega
          clear hd hdz
          go_wp2_with (at_builtin; go_must (refine appS Tryd.underlying72 infoUint8 rfl (by decide) rfl _ _ rfl w.heap.size _ [Value.int .u8 (48 + (q : Int) % 10)] rfl (HN.out _) _ A _ cap (u8V L) rfl (by unfold u8V; rw [List.length_map]; exact HK.out) (HSL.out _) HON.out (by simp <;> omega) (by simp <;> omega) ?_); intro v' w1 ho1 hb1)
          go_roundw
          case rel =>
            refine ⟨q / 10, (48 + (q : Int) % 10) :: L, by go_num, HS, by rw [List.length_cons, HK.out]; omega, by rw [List.length_cons, HK.out]; exact HS16.out hK15, Lib.hid ho1, (hb.alloc hz _).trans hb1⟩
          case measure =>
            obtain ⟨A', cap', rfl, _⟩ := Ow.sl ho1
            simp [intOf, lenV]
            omega
    · have hK1 : K ≠ 0 := by omega
      have hq0 : q = 0 := by omega
      have hfin : decI n = L := by
        rcases HD.out with ⟨h1, _⟩ | ⟨_, h2⟩
        · rw [h1] at HK
          exact absurd HK.out.symm hK1
        · rw [if_pos hq0] at h2
          exact h2
      have HF := Lib.hid hfin
      have hone : ∀ u ∈ u8V L, u.oneCell' = true := one_int
      have HON := Lib.hid hone
      have hnew : Ow (wr.alloc (.cells #[.int .u8 45] 5)) w.heap.size 5 (.slice (some ⟨wr.heap.size, 0, none⟩) 1 1) [.int .u8 45] := World.ownsRow_lit wr #[.int .u8 45] 1 hz (by decide) rfl
      have HN := Lib.hid hnew
      have HSL := Lib.hid ((sl_of_own HP.out).alloc (Nat.le_refl _) (.cells #[.int .u8 45] 5))
      have h0 : ((K : Int) == 0) = false := by rw [beq_eq_false_iff_ne]; omega
      subst hq0
      have h1 : ((-((0 : Nat) : Int)) == 0) = true := rfl
      clear hgo hfin HD hnew hone
      go_wp2_with (at_builtin; go_must (refine appS Tryd.underlying72 infoUint8 rfl (by decide) rfl _ _ rfl w.heap.size _ [Value.int .u8 45] rfl HN.out _ A _ cap (u8V L) rfl (by unfold u8V; rw [List.length_map]; exact HK.out) HSL.out HON.out (by simp <;> omega) (by simp <;> omega) ?_); intro v' w1 ho1 hb1; have hcv := conv_neg HK.out HF.out hn1 ho1)
      go_ret
      exact ⟨rfl, (hb.alloc hz _).trans hb1⟩

theorem spec_l01DecZ_c (w : World) (n : Int) (h0 : -1000000000000000 ≤ n) (h1 : n ≤ 1000000000000000) : Calls Tryd.prog 42 #[.int .i64 n] w fun e w' => e = .returned (.string (decZ n)) ∧ Below w.heap.size w w' := by
  by_cases hn : 0 ≤ n
  · obtain ⟨m, rfl⟩ : ∃ m : Nat, n = (m : Int) := ⟨n.toNat, by omega⟩
    rw [decZ_nat]
    exact spec_l01DecN_c w m (by omega)
  · obtain ⟨m, rfl⟩ : ∃ m : Nat, n = -(m : Int) := ⟨(-n).toNat, by omega⟩
    exact spec_l01DecM_c w m (by omega) (by omega)

end Go.Proofs.YtajobeajmndglaaDoor
