/-
  Plain: texts of whole numbers are read back: by digits, and by strconv.ParseInt's own rule.
  Conditions: numbers from -1000000000000000 to 1000000000000000.
-/
import Derived.Test.YtajobeajmndglaaDoorDF
import Derived.Lib.ParseIntB
namespace Go.Proofs.YtajobeajmndglaaDoor
open Go.RowKit

theorem dig_nat {n : Nat} (h : n < 10) : (UInt8.ofNat (48 + n)).toNat = 48 + n := by
  rw [UInt8.toNat_ofNat']
  omega
theorem dd_small {n : Nat} (h : n < 10) : Lib.decDigits n = [UInt8.ofNat (48 + n)] := by rw [Lib.decDigits, dif_pos h]
theorem dd_big {n : Nat} (h : ¬ n < 10) : Lib.decDigits n = Lib.decDigits (n / 10) ++ [UInt8.ofNat (48 + n % 10)] := by rw [Lib.decDigits, dif_neg h]
theorem dd_all (n : Nat) : ∀ c ∈ Lib.decDigits n, 48 ≤ c.toNat ∧ c.toNat ≤ 57 := by
  induction n using Nat.strongRecOn with
  | _ n ih =>
    by_cases h : n < 10
    · rw [dd_small h]
      intro c hc
      obtain rfl : c = UInt8.ofNat (48 + n) := by simpa using hc
      rw [dig_nat h]
      omega
    · rw [dd_big h]
      intro c hc
      rcases List.mem_append.1 hc with hc | hc
      · exact ih (n / 10) (by omega) c hc
      · obtain rfl : c = UInt8.ofNat (48 + n % 10) := by simpa using hc
        rw [dig_nat (by omega)]
        omega
theorem dd_len (k : Nat) : ∀ n, n < 10 ^ (k + 1) → (Lib.decDigits n).length ≤ k + 1 := by
  induction k with
  | zero =>
    intro n h
    rw [dd_small (by simpa using h)]
    exact Nat.le_refl _
  | succ k ih =>
    intro n h
    by_cases h10 : n < 10
    · rw [dd_small h10]
      simp
    · rw [dd_big h10, List.length_append]
      have := ih (n / 10) (by rw [Nat.pow_succ] at h; omega)
      simp only [List.length_singleton]
      omega
theorem dd_ne (n : Nat) : Lib.decDigits n ≠ [] := by
  intro h
  by_cases h10 : n < 10
  · rw [dd_small h10] at h
    cases h
  · rw [dd_big h10] at h
    exact absurd (List.append_eq_nil_iff.1 h).2 (by simp)

/-! ### by strconv.ParseInt -/
theorem pm_snoc {M : Nat} {d : UInt8} (h0 : 48 ≤ d.toNat) (h1 : d.toNat ≤ 57) : ∀ (l : List UInt8) (acc u : Nat), Lib.parseUintM M acc l = .ok u → u < 1844674407370955162 → u * 10 + (d.toNat - 48) ≤ M → Lib.parseUintM M acc (l ++ [d]) = .ok (u * 10 + (d.toNat - 48))
  | [], acc, u, h, hu, hm => by
    simp only [Lib.parseUintM] at h
    injection h with h
    subst h
    simp only [List.nil_append, Lib.parseUintM]
    rw [if_pos ⟨h0, h1⟩, if_neg (by omega), if_neg (by omega)]
  | c :: r, acc, u, h, hu, hm => by
    simp only [Lib.parseUintM] at h
    simp only [List.cons_append, Lib.parseUintM]
    split at h
    · rename_i hc
      rw [if_pos hc]
      split at h
      · cases h
      · rename_i hc2
        rw [if_neg hc2]
        split at h
        · cases h
        · rename_i hc3
          rw [if_neg hc3]
          exact pm_snoc h0 h1 r _ u h hu hm
    · cases h
theorem pm_dec (n : Nat) (hn : n ≤ 1000000000000000) : Lib.parseUintM (2 ^ 64 - 1) 0 (Lib.decDigits n) = .ok n := by
  induction n using Nat.strongRecOn with
  | _ n ih =>
    by_cases h : n < 10
    · have hd := dig_nat h
      rw [dd_small h]
      have := pm_snoc (M := 2 ^ 64 - 1) (d := UInt8.ofNat (48 + n)) (by omega) (by omega) [] 0 0 rfl (by omega) (by omega)
      rw [List.nil_append] at this
      rw [this, hd]
      congr 1
      omega
    · have hd := dig_nat (n := n % 10) (by omega)
      rw [dd_big h]
      rw [pm_snoc (d := UInt8.ofNat (48 + n % 10)) (by omega) (by omega) _ 0 (n / 10) (ih (n / 10) (by omega) (by omega)) (by omega) (by omega), hd]
      congr 1
      omega
theorem pz_nat (n : Nat) (hn : n ≤ 1000000000000000) : Lib.parseIntB 64 (Lib.decDigits n) = .ok (n : Int) := by
  have hall := dd_all n
  have hp := pm_dec n hn
  have hne := dd_ne n
  generalize Lib.decDigits n = l at hall hp hne
  cases l with
  | nil => exact absurd rfl hne
  | cons c r =>
    have hc := hall c List.mem_cons_self
    simp only [Lib.parseIntB, Lib.parseUintB]
    rw [if_neg (by omega : ¬ (c.toNat = 43 ∨ c.toNat = 45)), if_neg (by simp), hp]
    simp only []
    rw [if_neg (by omega), if_neg (by omega), if_neg (by omega)]
theorem pz_neg (n : Nat) (hn : n ≤ 1000000000000000) : Lib.parseIntB 64 (45 :: Lib.decDigits n) = .ok (-(n : Int)) := by
  have hp := pm_dec n hn
  have hne := dd_ne n
  have h45 : (45 : UInt8).toNat = 45 := rfl
  simp only [Lib.parseIntB, Lib.parseUintB]
  rw [if_pos (Or.inr h45), if_neg hne, hp]
  simp only [h45]
  rw [if_neg (by omega), if_neg (by omega)]
  simp
theorem pz_itoa (n : Int) (h0 : -1000000000000000 ≤ n) (h1 : n ≤ 1000000000000000) : Lib.parseIntB 64 (decZ n).data.toList = .ok n := by
  by_cases hn : 0 ≤ n
  · obtain ⟨m, rfl⟩ : ∃ m : Nat, n = (m : Int) := ⟨n.toNat, by omega⟩
    rw [decZ_nat]
    exact pz_nat m (by omega)
  · obtain ⟨m, rfl⟩ : ∃ m : Nat, n = -(m : Int) := ⟨(-n).toNat, by omega⟩
    rw [decZ_neg m (by omega)]
    exact pz_neg m (by omega)

/-! ### by digits -/
def isDig (c : UInt8) : Bool := decide (48 ≤ c.toNat) && decide (c.toNat ≤ 57)
def digV (l : List UInt8) : Nat := l.foldl (fun a c => if isDig c then 10 * a + (c.toNat - 48) else a) 0
theorem digV_snoc (l : List UInt8) (c : UInt8) : digV (l ++ [c]) = if isDig c then 10 * digV l + (c.toNat - 48) else digV l := by simp [digV]
theorem digV_dec (n : Nat) : digV (Lib.decDigits n) = n := by
  induction n using Nat.strongRecOn with
  | _ n ih =>
    by_cases h : n < 10
    · have hd := dig_nat h
      rw [dd_small h]
      have := digV_snoc [] (UInt8.ofNat (48 + n))
      rw [List.nil_append] at this
      rw [this, if_pos (by unfold isDig; rw [hd]; simp; omega), hd]
      show 10 * 0 + _ = _
      omega
    · have hd := dig_nat (n := n % 10) (by omega)
      rw [dd_big h, digV_snoc, ih (n / 10) (by omega), if_pos (by unfold isDig; rw [hd]; simp; omega), hd]
      omega
theorem digV_neg (l : List UInt8) : digV (45 :: l) = digV l := rfl
theorem digV_lt (l : List UInt8) : digV l < 10 ^ l.length := by
  induction hl : l.length generalizing l with
  | zero =>
    obtain rfl := List.eq_nil_of_length_eq_zero hl
    show 0 < 10 ^ 0
    decide
  | succ k ih =>
    have hne : l ≠ [] := by intro h; rw [h] at hl; cases hl
    obtain ⟨r, c, rfl⟩ : ∃ r c, l = r ++ [c] := ⟨_, _, (List.dropLast_concat_getLast hne).symm⟩
    rw [List.length_append] at hl
    have := ih r (by simpa using hl)
    rw [digV_snoc, Nat.pow_succ]
    split
    · rename_i hc
      unfold isDig at hc
      rw [Bool.and_eq_true, decide_eq_true_eq, decide_eq_true_eq] at hc
      omega
    · omega
/-- the number that digits tell, a sign ahead of them -/
def sgnV (s : ByteArray) : Int := if s.data.toList.head? = some 45 then -(digV s.data.toList : Int) else digV s.data.toList
theorem sgnV_itoa (n : Int) : sgnV (decZ n) = n := by
  by_cases hn : 0 ≤ n
  · obtain ⟨m, rfl⟩ : ∃ m : Nat, n = (m : Int) := ⟨n.toNat, by omega⟩
    rw [decZ_nat]
    unfold sgnV
    show (if (Lib.decDigits m).head? = some 45 then -(digV (Lib.decDigits m) : Int) else digV (Lib.decDigits m)) = _
    rw [digV_dec, if_neg]
    intro h
    have hall := dd_all m
    cases hl : Lib.decDigits m with
    | nil => exact absurd hl (dd_ne m)
    | cons c r =>
      rw [hl] at h hall
      have hc := (hall c List.mem_cons_self).1
      obtain rfl : c = 45 := by simpa using h
      exact absurd hc (by decide)
  · obtain ⟨m, rfl⟩ : ∃ m : Nat, n = -(m : Int) := ⟨(-n).toNat, by omega⟩
    rw [decZ_neg m (by omega)]
    unfold sgnV
    show (if (45 :: Lib.decDigits m).head? = some 45 then -(digV (45 :: Lib.decDigits m) : Int) else digV (45 :: Lib.decDigits m)) = _
    rw [if_pos (show (45 :: Lib.decDigits m).head? = some 45 from rfl), digV_neg, digV_dec]
theorem decZ_len (n : Int) (h0 : -1000000000000000 ≤ n) (h1 : n ≤ 1000000000000000) : 1 ≤ (decZ n).size ∧ (decZ n).size ≤ 17 := by
  by_cases hn : 0 ≤ n
  · obtain ⟨m, rfl⟩ : ∃ m : Nat, n = (m : Int) := ⟨n.toNat, by omega⟩
    have h2 := dd_len 15 m (by omega)
    have h3 : 0 < (Lib.decDigits m).length := List.length_pos_iff.2 (dd_ne m)
    rw [decZ_nat]
    show 1 ≤ (Lib.decDigits m).toArray.size ∧ (Lib.decDigits m).toArray.size ≤ 17
    rw [List.size_toArray]
    omega
  · obtain ⟨m, rfl⟩ : ∃ m : Nat, n = -(m : Int) := ⟨(-n).toNat, by omega⟩
    have h2 := dd_len 15 m (by omega)
    rw [decZ_neg m (by omega)]
    show 1 ≤ (45 :: Lib.decDigits m).toArray.size ∧ (45 :: Lib.decDigits m).toArray.size ≤ 17
    rw [List.size_toArray, List.length_cons]
    omega

/-- the number with a text -/
def okZ (s : ByteArray) (n : Int) : Prop := -1000000000000000 ≤ n ∧ n ≤ 1000000000000000 ∧ decZ n = s
open Classical in
noncomputable def valZ (s : ByteArray) : Option Int := if h : ∃ n, okZ s n then some h.choose else none
theorem valZ_yes {s : ByteArray} {n : Int} (h : okZ s n) : valZ s = some n := by
  have he : ∃ n, okZ s n := ⟨n, h⟩
  unfold valZ
  rw [dif_pos he]
  have h2 := he.choose_spec
  congr 1
  have a := sgnV_itoa he.choose
  have b := sgnV_itoa n
  rw [h2.2.2] at a
  rw [h.2.2] at b
  exact a.symm.trans b
theorem valZ_no {s : ByteArray} (h : ∀ n, ¬ okZ s n) : valZ s = none := by
  unfold valZ
  rw [dif_neg]
  rintro ⟨n, hn⟩
  exact h n hn
theorem valZ_small {s : ByteArray} (h : s.size < 1 ∨ 17 < s.size) : valZ s = none := valZ_no fun n ⟨h0, h1, h2⟩ => by
  have := decZ_len n h0 h1
  rw [h2] at this
  omega
theorem valZ_sgn {s : ByteArray} (h : ¬ okZ s (sgnV s)) : valZ s = none := valZ_no fun n hn => by
  apply h
  rw [show sgnV s = n by rw [← hn.2.2]; exact sgnV_itoa n]
  exact hn
theorem valZ_parse {s : ByteArray} (h : ∀ n, Lib.parseIntB 64 s.data.toList = .ok n → ¬ okZ s n) : valZ s = none := valZ_no fun n hn => by
  refine h n ?_ hn
  rw [← hn.2.2]
  exact pz_itoa n hn.1 hn.2.1

end Go.Proofs.YtajobeajmndglaaDoor
