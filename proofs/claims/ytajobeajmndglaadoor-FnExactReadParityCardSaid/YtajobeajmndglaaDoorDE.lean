/-
  Contracts: whole numbers in decimal, of both.
  Conditions: numbers from -1000000000000000 to 1000000000000000; internal/strconv.uint64pow10's cells hold the powers of ten.
-/
import Derived.Test.YtajobeajmndglaaDoorDC
namespace Go.Proofs.YtajobeajmndglaaDoor
open Go.RowKit

/-- a whole number's text -/
def decZ (n : Int) : ByteArray := ⟨(Lib.itoa n).toArray⟩
theorem decZ_nat (n : Nat) : decZ (n : Int) = decS n := by unfold decZ decS; rw [itoa_nat]
theorem decZ_neg (n : Nat) (h : 1 ≤ n) : decZ (-(n : Int)) = ⟨(45 :: Lib.decDigits n).toArray⟩ := by unfold decZ; rw [Lib.itoa_neg n h]


theorem impl_DecimalZ_c (w : World) (n : Int) (h0 : -1000000000000000 ≤ n) (h1 : n ≤ 1000000000000000) (ht : Tab w) : Calls Tryd.prog 35 #[.int .i64 n] w fun e w' => e = .returned (.string (decZ n)) ∧ Below w.heap.size w w' := by
  have HF := Lib.hid (Tryd.strconv_FormatInt_10 n (by omega) (by omega) w ht)
  clear ht
  go_enter Tryd.func35, Tryd.ntmps35
  go_wp2_with fail
  refine HF.out.mono ?_
  rintro e w' ⟨rfl, k, os, rfl⟩
  go_wp2
  go_ret
  exact ⟨rfl, below_gro _ _ _⟩


theorem pow_step {q K : Nat} (h : q < 10 ^ (16 - K)) (hK : K < 16) : q / 10 < 10 ^ (16 - (K + 1)) := by
  have e : 16 - K = (16 - (K + 1)) + 1 := by omega
  rw [e, Nat.pow_succ] at h
  omega
theorem pow_end {q K : Nat} (h : q < 10 ^ (16 - K)) (hK : ¬ K < 16) : q = 0 := by
  rw [show 16 - K = 0 by omega] at h
  simpa using h
theorem pow_all {q K : Nat} (h : q < 10 ^ (16 - K)) : q < 10000000000000000 := by
  have : 10 ^ (16 - K) ≤ 10 ^ 16 := Nat.pow_le_pow_right (by decide) (by omega)
  omega
set_option maxRecDepth 100000 in
set_option maxHeartbeats 1000000 in
theorem spec_l01DecN_c (w : World) (n : Nat) (hn : n ≤ 1000000000000000) : Calls Tryd.prog 42 #[.int .i64 (n : Int)] w fun e w' => e = .returned (.string (decS n)) ∧ Below w.heap.size w w' := by
  go_enter Tryd.func42, Tryd.ntmps42
  go_wp2
  go_loopw [3, 4] (fun v i wr => ∃ (q : Nat) (L : List Int), i = .int .i64 q ∧ Hid (DecAt n q L) ∧ L.length ≤ 16 ∧ q < 10 ^ (16 - L.length) ∧ Hid (Ow wr w.heap.size 5 v (u8V L)) ∧ Below w.heap.size w wr) (fun v i _ => (intOf i).toNat + if lenV v = 0 then 1 else 0)
  case atStart => exact ⟨n, [], rfl, Lib.hid (.inl ⟨rfl, rfl⟩), by simp, by simp; omega, Lib.hid (own_empty _ _ _ (Nat.le_refl _)), (Below.refl _ _).alloc (Nat.le_refl _) _⟩
  case round =>
    obtain ⟨q, L, rfl, HD, hlen, hpw, HO, hb⟩ := hrel
    have hz := hb.size
    obtain ⟨A, cap, rfl, hp⟩ := HO.out.opn
    obtain ⟨K, hK⟩ : ∃ K, L.length = K := ⟨_, rfl⟩
    rw [hK] at hp hlen hpw ⊢
    have hq16 := pow_all hpw
    have hst16 := fun h => pow_step hpw h
    have hen16 := fun h => pow_end hpw h
    have HS16 := Lib.hid hst16
    have HE16 := Lib.hid hen16
    clear hst16 hen16 hpw
    have HP := Lib.hid hp
    have HK := Lib.hid hK
    clear hp hK HO
    by_cases hgo : K = 0 ∨ (K ≠ 0 ∧ q ≠ 0)
    · have hK15 : K < 16 := by
        rcases Nat.lt_or_ge K 16 with h | h
        · exact h
        · have := HE16.out (by omega)
          omega
      have hLe : L = [] ∨ q ≠ 0 := by
        rcases hgo with h | h
        · exact .inl (List.eq_nil_of_length_eq_zero (by rw [HK.out]; exact h))
        · exact .inr h.2
      have HS := Lib.hid (decAt_step HD.out hLe)
      have hq10 : (q : Int) % 10 < 10 := by omega
      clear hLe HD
      have hnew : Ow (wr.alloc (.cells #[.int .u8 (48 + (q : Int) % 10)] 5)) w.heap.size 5 (.slice (some ⟨wr.heap.size, 0, none⟩) 1 1) [.int .u8 (48 + (q : Int) % 10)] := World.ownsRow_lit wr #[.int .u8 (48 + (q : Int) % 10)] 1 hz (by decide) rfl
      have hsl := (sl_of_own HP.out).alloc (Nat.le_refl _) (.cells #[.int .u8 (48 + (q : Int) % 10)] 5)
      have hone : ∀ u ∈ u8V L, u.oneCell' = true := one_int
      have HN := Lib.hid hnew
      have HSL := Lib.hid hsl
      have HON := Lib.hid hone
      clear hnew hsl hone
      rcases hgo with h | h
      case' inl =>
        subst h
        have h0 : ((((0 : Nat) : Int)) == 0) = true := rfl
      case' inr =>
        obtain ⟨hk1, hq1⟩ := h
        have h0 : ((q : Int) == 0) = false := by rw [beq_eq_false_iff_ne]; omega
        have h00 : ((K : Int) == 0) = false := by rw [beq_eq_false_iff_ne]; omega
      all_goals
        go_wp2_with (at_builtin; go_must (refine appS Tryd.underlying72 infoUint8 rfl (by decide) rfl _ _ rfl w.heap.size _ [Value.int .u8 (48 + (q : Int) % 10)] rfl HN.out _ A _ cap (u8V L) rfl (by unfold u8V; rw [List.length_map]; exact HK.out) HSL.out HON.out (by simp <;> omega) (by simp <;> omega) ?_); intro v' w1 ho1 hb1)
        go_roundw
        case rel =>
          refine ⟨q / 10, (48 + (q : Int) % 10) :: L, by go_num, HS, by rw [List.length_cons, HK.out]; omega, by rw [List.length_cons, HK.out]; exact HS16.out hK15, Lib.hid ho1, (hb.alloc hz _).trans hb1⟩
        case measure =>
          obtain ⟨A', cap', rfl, _⟩ := Ow.sl ho1
          simp [intOf, lenV]
          omega
    · have hK1 : K ≠ 0 := by omega
      have hq0 : q = 0 := by omega
      have hfin : decI n = L := by
        rcases HD.out with ⟨h1, _⟩ | ⟨_, h2⟩
        · rw [h1] at HK
          exact absurd HK.out.symm hK1
        · rw [if_pos hq0] at h2
          exact h2
      obtain ⟨g, c', hv, hbg, hgs⟩ := HP.out.form (by omega)
      injection hv with hv
      subst hv
      have hcv := run_convert_bytes_arg (P := Tryd.prog) wr 72 5 Tryd.underlying72 Tryd.underlying5 g 0 K c' L HK.out (fun i hi => by
        rw [Nat.zero_add, World.ownsRow.cellAt HP.out i (by omega)]
        have hil : i < L.length := by rw [HK.out]; exact hi
        simp [List.getD, hil]) 9 Tryd.underlying9
      rw [← hfin, dec_back] at hcv
      have h0 : ((K : Int) == 0) = false := by rw [beq_eq_false_iff_ne]; omega
      have h1 : ((q : Int) == 0) = true := by rw [hq0]; rfl
      clear hgo hfin HP HK HD
      go_wp2
      go_ret
      exact ⟨rfl, hb⟩

end Go.Proofs.YtajobeajmndglaaDoor
