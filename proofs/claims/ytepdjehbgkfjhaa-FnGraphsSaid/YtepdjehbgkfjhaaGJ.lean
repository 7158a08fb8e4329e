/-
  Plain: members of graphs: flips end in one, nought is one, sums of members are ones.
  Conditions: as each theorem says.
-/
import Derived.Test.YtepdjehbgkfjhaaFR
import Derived.Test.YtepdjehbgkfjhaaGE
namespace Go.Proofs.Ytepdjehbgkfjhaa
open Go.RowKit

theorem flipGo_mem {D : List (List Int)} {f r : Nat} {bs : List Bool} {o : List Bool × Nat} (h : flipGo D f r bs = some o) : memberB D o.1 = true := by
  induction f generalizing r bs with
  | zero =>
    unfold flipGo at h
    split at h
    · rename_i hm; cases h; exact hm
    · cases h
  | succ f ih =>
    unfold flipGo at h
    split at h
    · rename_i hm; cases h; exact hm
    · split at h
      · cases h
      · exact ih h
theorem flipOk_yes {m k : Int} {D : List (List Int)} {bs : List Bool} (h : flipOk m D bs k = true) : memberB D (flipL m D bs k) = true ∧ (flipL m D bs k).length = bs.length := by
  unfold flipOk at h
  obtain ⟨o, ho⟩ := Option.isSome_iff_exists.1 h
  have h1 := ho
  unfold flipAns at h1
  split at h1
  · have e : flipL m D bs k = o.1 := by unfold flipL; rw [ho]
    rw [e]
    exact ⟨flipGo_mem h1, flipGo_len h1⟩
  · cases h1
theorem oddL_no {bs : List Bool} {l : List Int} (h : ∀ i, bs.getD i false = false) (k : Nat) : oddL bs l k = false := by
  unfold oddL
  generalize l.take k = L
  have : ∀ b, L.foldl (fun o i => o != bs.getD i.toNat false) b = b := by
    induction L with
    | nil => intro b; rfl
    | cons a L ih => intro b; rw [List.foldl_cons, ih, h]; simp
  exact this false
theorem member_none (D : List (List Int)) (n : Nat) : memberB D (List.replicate n false) = true := by
  unfold memberB unevenB
  rw [List.all_eq_true]
  intro l _
  rw [oddL_no (fun i => by simp [List.getD_eq_getElem?_getD, List.getElem?_replicate]; split <;> rfl)]
  rfl
def bothL (a b : List Bool) (n : Nat) : List Bool := (List.range n).map fun i => a.getD i false != b.getD i false
theorem bothL_len (a b : List Bool) (n : Nat) : (bothL a b n).length = n := by simp [bothL]
theorem bothL_succ (a b : List Bool) (n : Nat) : bothL a b (n + 1) = bothL a b n ++ [a.getD n false != b.getD n false] := by simp [bothL, List.range_succ]
theorem bothL_get {a b : List Bool} {n : Nat} (ha : a.length = n) (hb : b.length = n) (i : Nat) : (bothL a b n).getD i false = (a.getD i false != b.getD i false) := by
  by_cases h : i < n
  · simp [bothL, List.getD_eq_getElem?_getD, h]
  · have h1 : (bothL a b n).getD i false = false := by rw [List.getD_eq_getElem?_getD, List.getElem?_eq_none (by rw [bothL_len]; omega)]; rfl
    have h2 : a.getD i false = false := by rw [List.getD_eq_getElem?_getD, List.getElem?_eq_none (by omega)]; rfl
    have h3 : b.getD i false = false := by rw [List.getD_eq_getElem?_getD, List.getElem?_eq_none (by omega)]; rfl
    rw [h1, h2, h3]
    rfl
theorem odd_both {a b : List Bool} {n : Nat} (ha : a.length = n) (hb : b.length = n) (l : List Int) (k : Nat) : oddL (bothL a b n) l k = (oddL a l k != oddL b l k) := by
  unfold oddL
  generalize l.take k = L
  have : ∀ x y, L.foldl (fun o i => o != (bothL a b n).getD i.toNat false) (x != y) = (L.foldl (fun o i => o != a.getD i.toNat false) x != L.foldl (fun o i => o != b.getD i.toNat false) y) := by
    induction L with
    | nil => intro x y; rfl
    | cons c L ih =>
      intro x y
      rw [List.foldl_cons, List.foldl_cons, List.foldl_cons, bothL_get ha hb, ← ih]
      congr 1
      cases x <;> cases y <;> cases a.getD c.toNat false <;> cases b.getD c.toNat false <;> rfl
  exact this false false
theorem member_both {D : List (List Int)} {a b : List Bool} {n : Nat} (ha : a.length = n) (hb : b.length = n) (h1 : memberB D a = true) (h2 : memberB D b = true) : memberB D (bothL a b n) = true := by
  unfold memberB at *
  rw [List.all_eq_true] at *
  intro l hl
  have e1 := h1 l hl
  have e2 := h2 l hl
  unfold unevenB at *
  rw [odd_both ha hb]
  cases h3 : oddL a l l.length
  · cases h4 : oddL b l l.length
    · rfl
    · rw [h4] at e2; cases e2
  · rw [h3] at e1; cases e1
theorem isMem_yes {M : Nat} {D : List (List Int)} {bs : List Bool} (hv : validGraphB (M : Int) D = true) (hl : bs.length = M) : memOkB (M : Int) D bs = true ∧ isMemB (M : Int) D bs = memberB D bs := by
  have h : memOkB (M : Int) D bs = true := by unfold memOkB; rw [hv, hl]; simp
  exact ⟨h, by unfold isMemB; rw [h, Bool.true_and]⟩
theorem flip_none {M : Nat} {D : List (List Int)} (hv : validGraphB (M : Int) D = true) : flipOk (M : Int) D (List.replicate M false) 0 = true ∧ flipR (M : Int) D (List.replicate M false) 0 = 0 ∧ flipL (M : Int) D (List.replicate M false) 0 = List.replicate M false := by
  have h := flipGo_in (D := D) (f := 0) (r := 0) (member_none D M)
  have h1 := fa_some (m := (M : Int)) (k := 0) (fa_yes (M := 0) (by rw [(isMem_yes hv (by simp)).1]; rfl) h)
  exact h1
/-- valid rows -/
theorem bitsK_len {D : List (List Int)} {soft : List Nat} {n ns : Nat} (h : soft.length = ns) (t : Nat) : (bitsK D soft n t).length = ns := by
  cases t with
  | zero => simp [bitsK, hardL, h]
  | succ t => simp [bitsK, bitsM, h]

end Go.Proofs.Ytepdjehbgkfjhaa
