/-
  Contract: all ways, of both sides, the list told in words.
  Conditions: lengths at most 1048576.
-/
import Derived.Test.YtopeidmafalklaaYJ
import Derived.Test.YtopeidmafalklaaYL
namespace Go.Proofs.Ytopeidmafalklaa
open Go.RowKit Go.Shelf

def allR (m : Int) (ms : List Int) (xs : List Nat) : List Nat := (allL m ms xs).map fun o => o.getD 0
theorem words_of : ∀ ys : List Nat, (ys.map (fl .f32)).all finB = true → (ys.map (fl .f32)).map (fun o => o.getD 0) = ys
  | [], _ => rfl
  | y :: ys, h => by
    simp only [List.map_cons, List.all_cons, Bool.and_eq_true] at h
    obtain ⟨h1, h2⟩ := h
    have h3 := words_of ys h2
    rw [List.map_cons, List.map_cons, h3]
    congr 1
    unfold fl at h1 ⊢
    split at h1
    · exact nomatch h1
    · rename_i hn
      rw [if_neg hn]
      rfl
theorem allL_fin (m : Int) (ms : List Int) (xs : List Nat) : (allL m ms xs).all finB = true := by
  unfold allL
  split
  · rename_i h
    unfold allOk at h
    rw [Bool.and_eq_true] at h
    have h2 := h.2
    cases ho : outT m.toNat ms xs (sentN m ms xs).toNat (sentN m ms xs).toNat with
    | none => rfl
    | some l => rw [ho] at h2; exact h2
  · rfl
theorem outT_length {M : Nat} {ms : List Int} {soft : List Nat} {n : Nat} : ∀ t l, outT M ms soft n t = some l → l.length = t
  | 0, l, h => by cases h; rfl
  | t + 1, l, h => by
    have h : ((outT M ms soft n t).bind fun l => (outS (sumT M ms soft n t false) (sumT M ms soft n t true)).map fun z => l ++ [z]) = some l := h
    cases h0 : outT M ms soft n t with
    | none => rw [h0] at h; exact nomatch h
    | some l0 =>
      have h3 := outT_length t l0 h0
      rw [h0] at h
      cases h1 : outS (sumT M ms soft n t false) (sumT M ms soft n t true) with
      | none => rw [h1] at h; exact nomatch h
      | some z =>
        rw [h1] at h
        cases h
        simp [h3]
theorem allR_len (m : Int) (ms : List Int) (xs : List Nat) : (allR m ms xs).length ≤ 40 := by
  unfold allR allL
  rw [List.length_map]
  split
  · rename_i h
    unfold allOk at h
    rw [Bool.and_eq_true] at h
    obtain ⟨M, n, rfl, -, -, -, -, -, hn, hsn, -, -⟩ := sent_facts h.1
    rw [hsn, Int.toNat_natCast, Int.toNat_natCast]
    cases h0 : outT M ms xs n n with
    | none => simp
    | some l => rw [Option.getD_some, outT_length n l h0]; exact hn
  · simp
def AllPostR (w : World) (m : Int) (ms : List Int) (xs : List Nat) (e : Ending) (w' : World) : Prop :=
  ∃ v, e = .returned (.tuple #[v, .bool (allOk m ms xs)]) ∧ Ow w' w.heap.size 46 v ((allR m ms xs).map (Value.float .f32)) ∧ Below w.heap.size w w'
theorem allPostR_of {w w' : World} {m : Int} {ms : List Int} {xs : List Nat} {e : Ending} (h : AllPost w m ms xs e w') : AllPostR w m ms xs e w' := by
  obtain ⟨v, ys, he, hy, ho, hb⟩ := h
  refine ⟨v, he, ?_, hb⟩
  have h1 := words_of ys (by rw [hy]; exact allL_fin m ms xs)
  unfold allR
  rw [← hy, h1]
  exact ho
theorem impl_AllWays_r (w : World) (m : Int) (A : Option Addr) (k cap : Nat) (ms : List Int) (hl : ms.length = k) (hk : k ≤ 1048576) (hx : Sl w w.heap.size A (ms.map (Value.int .i64)))
    (A2 : Option Addr) (n2 cap2 : Nat) (xs : List Nat) (hl2 : xs.length = n2) (hn2 : n2 ≤ 1048576) (hy : Sl w w.heap.size A2 (xs.map (Value.float .f32))) (hA : RowA A2 n2 cap2) :
    Calls Try.prog 9 #[.agg #[.int .i64 m, .slice A k cap], .slice A2 n2 cap2] w (AllPostR w m ms xs) :=
  (impl_AllWays_c w m A k cap ms hl hk hx A2 n2 cap2 xs hl2 hn2 hy hA).mono fun _ _ h => allPostR_of h
theorem spec_AllWays_r (w : World) (m : Int) (A : Option Addr) (k cap : Nat) (ms : List Int) (hl : ms.length = k) (hk : k ≤ 1048576) (hx : Sl w w.heap.size A (ms.map (Value.int .i64)))
    (A2 : Option Addr) (n2 cap2 : Nat) (xs : List Nat) (hl2 : xs.length = n2) (hn2 : n2 ≤ 1048576) (hy : Sl w w.heap.size A2 (xs.map (Value.float .f32))) (hA : RowA A2 n2 cap2) :
    Calls Try.prog 6 #[.agg #[.int .i64 m, .slice A k cap], .slice A2 n2 cap2] w (AllPostR w m ms xs) :=
  (spec_AllWays_c w m A k cap ms hl hk hx A2 n2 cap2 xs hl2 hn2 hy hA).mono fun _ _ h => allPostR_of h

end Go.Proofs.Ytopeidmafalklaa
