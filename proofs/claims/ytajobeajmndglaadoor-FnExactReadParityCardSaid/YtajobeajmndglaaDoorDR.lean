/-
  Plain: a text cut at a semicolon; a semicolon in a list's text.
  Conditions: none.
-/
import Derived.Test.YtajobeajmndglaaDoorDQ
import Derived.Test.YtajobeajmndglaaDoorPV
namespace Go.Proofs.YtajobeajmndglaaDoor
open Go.RowKit

theorem itoa_chars (n : Int) : ∀ c ∈ (decZ n).data.toList, c.toNat = 45 ∨ (48 ≤ c.toNat ∧ c.toNat ≤ 57) := by
  by_cases hn : 0 ≤ n
  · obtain ⟨m, rfl⟩ : ∃ m : Nat, n = (m : Int) := ⟨n.toNat, by omega⟩
    rw [decZ_nat]
    exact fun c hc => .inr (dd_all m c hc)
  · obtain ⟨m, rfl⟩ : ∃ m : Nat, n = -(m : Int) := ⟨(-n).toNat, by omega⟩
    rw [decZ_neg m (by omega)]
    intro c hc
    rcases List.mem_cons.1 (show c ∈ 45 :: Lib.decDigits m from hc) with rfl | hc
    · exact .inl rfl
    · exact .inr (dd_all m c hc)
theorem valZ_semi {l : List UInt8} (h : (59 : UInt8) ∈ l) : valZ ⟨l.toArray⟩ = none := valZ_no fun n hn => by
  have h1 := itoa_chars n 59 (by rw [hn.2.2]; simpa using h)
  rcases h1 with h1 | h1
  · exact absurd h1 (by decide)
  · exact absurd h1.2 (by decide)
theorem cutL_has {c d : UInt8} (hne : c ≠ d) : ∀ (l : List UInt8), c ∈ l → ∃ p ∈ cutL d l, c ∈ p
  | [], h => by cases h
  | b :: l, h => by
    rw [cutL]
    split
    · rename_i hb
      rcases List.mem_cons.1 h with rfl | h
      · exact absurd hb hne
      · obtain ⟨p, h1, h2⟩ := cutL_has hne l h
        exact ⟨p, List.mem_cons_of_mem _ h1, h2⟩
    · cases hc : cutL d l with
      | nil => exact absurd hc (cutL_ne _ _)
      | cons y ys =>
        simp only [List.headD_cons, List.tail_cons]
        rcases List.mem_cons.1 h with rfl | h
        · exact ⟨c :: y, List.mem_cons_self, List.mem_cons_self⟩
        · obtain ⟨p, h1, h2⟩ := cutL_has hne l h
          rw [hc] at h1
          rcases List.mem_cons.1 h1 with rfl | h1
          · exact ⟨b :: p, List.mem_cons_self, List.mem_cons_of_mem _ h2⟩
          · exact ⟨p, List.mem_cons_of_mem _ h1, h2⟩
theorem valsL_bad : ∀ (P : List (List UInt8)), (∃ p ∈ P, valZ ⟨p.toArray⟩ = none) → valsL P = none
  | [], ⟨_, h, _⟩ => by cases h
  | l :: ls, ⟨p, h, hv⟩ => by
    simp only [valsL]
    rcases List.mem_cons.1 h with rfl | h
    · rw [hv]
    · rw [valsL_bad ls ⟨p, h, hv⟩]
      split <;> rfl
theorem lstZ_semi {l : List UInt8} (h : (59 : UInt8) ∈ l) : lstZ ⟨l.toArray⟩ = none := by
  have hno : (⟨l.toArray⟩ : ByteArray) ≠ noneS := by
    intro he
    have h1 : l = [110, 111, 110, 101] := by
      have := congrArg (fun x : ByteArray => x.data.toList) he
      simpa [noneS] using this
    rw [h1] at h
    revert h
    decide
  have hp : pcs ⟨l.toArray⟩ = cutL 44 l := by unfold pcs; rw [if_neg hno]
  have hb : valsL (pcs ⟨l.toArray⟩) = none := by
    rw [hp]
    obtain ⟨p, h1, h2⟩ := cutL_has (c := 59) (d := 44) (by decide) l h
    exact valsL_bad _ ⟨p, h1, valZ_semi h2⟩
  unfold lstZ
  rw [hb]
  split <;> rfl
/-- the parity with a text -/
noncomputable def rpL (l : List UInt8) : Option (Int × List Int) :=
  if 0 ≤ Lib.indexByte l 59 then
    match valZ ⟨(l.take (Lib.indexByte l 59).toNat).toArray⟩, lstZ ⟨(l.drop ((Lib.indexByte l 59).toNat + 1)).toArray⟩ with
    | some m, some D => if validParB m D then some (m, D) else none
    | _, _ => none
  else none
noncomputable def rpT (l : List UInt8) : Int × List Int × Bool := match rpL l with
  | some (m, D) => (m, D, true)
  | none => (0, [], false)
theorem rp_none {l : List UInt8} (h : rpL l = none) : rpT l = (0, [], false) := by unfold rpT; rw [h]
theorem rp_notfound {l : List UInt8} (h : ¬ 0 ≤ Lib.indexByte l 59) : rpT l = (0, [], false) := rp_none (by unfold rpL; rw [if_neg h])
theorem rp_badnum {l : List UInt8} {i : Nat} (h : Lib.indexByte l 59 = i) (hv : valZ ⟨(l.take i).toArray⟩ = none) : rpT l = (0, [], false) := rp_none (by
  unfold rpL
  rw [h, Int.toNat_natCast, if_pos (by omega), hv])
theorem rp_badlst {l : List UInt8} {i : Nat} (h : Lib.indexByte l 59 = i) (hv : lstZ ⟨(l.drop (i + 1)).toArray⟩ = none) : rpT l = (0, [], false) := rp_none (by
  unfold rpL
  rw [h, Int.toNat_natCast, if_pos (by omega), hv]
  split <;> first | rfl | simp_all)
theorem rp_both {l : List UInt8} {i : Nat} {m : Int} {D : List Int} (h : Lib.indexByte l 59 = i) (hv : valZ ⟨(l.take i).toArray⟩ = some m) (hw : lstZ ⟨(l.drop (i + 1)).toArray⟩ = some D) : rpT l = if validParB m D then (m, D, true) else (0, [], false) := by
  have e : rpL l = if validParB m D then some (m, D) else none := by
    unfold rpL
    rw [h, Int.toNat_natCast, if_pos (by omega), hv, hw]
  unfold rpT
  rw [e]
  cases validParB m D <;> rfl
theorem cut59_no {l : List UInt8} (h : ¬ 0 ≤ Lib.indexByte l 59) : cutL 59 l = [l] := by
  have := Lib.indexByte_ge l 59
  exact cutL_no (index_neg (by rw [Lib.index_one]; omega))
theorem cut59_at {l : List UInt8} {i : Nat} (h : Lib.indexByte l 59 = i) : cutL 59 l = l.take i :: cutL 59 (l.drop (i + 1)) := by
  rw [← Lib.index_one] at h
  obtain ⟨h1, h2⟩ := index_pos h
  conv => lhs; rw [h1]
  rw [cutL_app h2]
theorem cut59_two {l : List UInt8} (h : (cutL 59 l).length ≠ 1) : (59 : UInt8) ∈ l := by
  by_cases hn : 0 ≤ Lib.indexByte l 59
  · obtain ⟨i, hi⟩ : ∃ i : Nat, Lib.indexByte l 59 = i := ⟨(Lib.indexByte l 59).toNat, by omega⟩
    exact List.mem_of_getElem? (Lib.indexByte_some hi).1
  · rw [cut59_no hn] at h
    exact absurd rfl h
theorem cut59_one {l : List UInt8} (h : (cutL 59 l).length = 1) : cutL 59 l = [l] := by
  by_cases hn : 0 ≤ Lib.indexByte l 59
  · obtain ⟨i, hi⟩ : ∃ i : Nat, Lib.indexByte l 59 = i := ⟨(Lib.indexByte l 59).toNat, by omega⟩
    rw [cut59_at hi, List.length_cons] at h
    have h2 : cutL 59 (l.drop (i + 1)) = [] := List.eq_nil_of_length_eq_zero (by omega)
    exact absurd h2 (cutL_ne 59 _)
  · exact cut59_no hn

end Go.Proofs.YtajobeajmndglaaDoor
