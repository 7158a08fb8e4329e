/-
  Contracts: texts of journals, of both.
  Conditions: at most 1048576 texts, of at most 1048576 bytes together; the table of the powers of ten lies there.
-/
import Derived.Test.YthccklkonfappaaDoorJB
import Derived.Test.YthccklkonfappaaDoorJZ
import Derived.Lib.IndexLaws
namespace Go.Proofs.YthccklkonfappaaDoor
open Go.RowKit

theorem dec_pos (n : Nat) : 1 ≤ (Lib.decDigits n).length := by
  rw [Lib.decDigits]
  split
  · simp
  · rw [List.length_append]
    simp
theorem decS_pos (n : Nat) : 1 ≤ (decS n).size := by
  show 1 ≤ (Lib.decDigits n).toArray.size
  rw [List.size_toArray]
  exact dec_pos n
/-- a record -/
def recS (c : Nat) (x : ByteArray) : ByteArray := ((decS (chkS c x) ++ ⟨#[32]⟩) ++ x) ++ ⟨#[10]⟩
theorem recS_size (c : Nat) (x : ByteArray) : (recS c x).size = (decS (chkS c x)).size + x.size + 2 := by
  unfold recS
  rw [ByteArray.size_append, ByteArray.size_append, ByteArray.size_append]
  show _ + 1 + _ + 1 = _
  omega
def sumS (c : Nat) (xs : List ByteArray) : Nat := xs.foldl chkS c
theorem sumS_snoc (c : Nat) (xs : List ByteArray) (x : ByteArray) : sumS c (xs ++ [x]) = chkS (sumS c xs) x := by simp [sumS]
theorem sumS_lt : ∀ (xs : List ByteArray) {c : Nat}, c ≤ 65002 → sumS c xs ≤ 65002
  | [], _, h => h
  | x :: xs, _, h => sumS_lt xs (chkS_lt x h)
/-- a journal's text -/
def jourS : Nat → List ByteArray → ByteArray
  | _, [] => ⟨#[]⟩
  | c, x :: xs => recS c x ++ jourS (chkS c x) xs
theorem ba_nil (a : ByteArray) : (⟨#[]⟩ : ByteArray) ++ a = a := by apply ByteArray.ext; simp
theorem ba_nil' (a : ByteArray) : a ++ (⟨#[]⟩ : ByteArray) = a := by apply ByteArray.ext; simp
theorem jour_app : ∀ (xs ys : List ByteArray) (c : Nat), jourS c (xs ++ ys) = jourS c xs ++ jourS (sumS c xs) ys
  | [], ys, c => (ba_nil _).symm
  | x :: xs, ys, c => by
    show recS c x ++ jourS (chkS c x) (xs ++ ys) = (recS c x ++ jourS (chkS c x) xs) ++ jourS (sumS (chkS c x) xs) ys
    rw [jour_app xs ys, ByteArray.append_assoc]
theorem jour_snoc (xs : List ByteArray) (x : ByteArray) (c : Nat) : jourS c (xs ++ [x]) = jourS c xs ++ recS (sumS c xs) x := by
  rw [jour_app]
  show _ ++ (recS _ x ++ (⟨#[]⟩ : ByteArray)) = _
  rw [ba_nil']
theorem jour_step {xs : List ByteArray} {k : Nat} (h : k < xs.length) : jourS 0 (xs.take (k + 1)) = jourS 0 (xs.take k) ++ recS (sumS 0 (xs.take k)) xs[k] := by
  rw [List.take_succ_eq_append_getElem h, jour_snoc]
theorem sum_step {xs : List ByteArray} {k : Nat} (h : k < xs.length) : sumS 0 (xs.take (k + 1)) = chkS (sumS 0 (xs.take k)) xs[k] := by
  rw [List.take_succ_eq_append_getElem h, sumS_snoc]
theorem jour_ge : ∀ (xs : List ByteArray) (c : Nat), totS xs + 3 * xs.length ≤ (jourS c xs).size
  | [], _ => Nat.le_refl _
  | x :: xs, c => by
    have h1 := jour_ge xs (chkS c x)
    have h2 := decS_pos (chkS c x)
    show x.size + totS xs + 3 * (xs.length + 1) ≤ (recS c x ++ jourS (chkS c x) xs).size
    rw [ByteArray.size_append, recS_size]
    omega
theorem jour_le : ∀ (xs : List ByteArray) (c : Nat), c ≤ 65002 → (jourS c xs).size ≤ totS xs + 65005 * xs.length
  | [], _, _ => Nat.le_refl _
  | x :: xs, c, h => by
    have h1 := jour_le xs (chkS c x) (chkS_lt x h)
    have h2 := decS_size (chkS c x)
    have h3 := chkS_lt x h
    show (recS c x ++ jourS (chkS c x) xs).size ≤ x.size + totS xs + 65005 * (xs.length + 1)
    rw [ByteArray.size_append, recS_size]
    omega
theorem jour_take (xs : List ByteArray) (k : Nat) : (jourS 0 (xs.take k)).size ≤ (jourS 0 xs).size := by
  conv => rhs; rw [← List.take_append_drop k xs, jour_app]
  rw [ByteArray.size_append]
  omega
theorem totS_take (xs : List ByteArray) (k : Nat) : totS (xs.take k) ≤ totS xs := by
  induction xs generalizing k with
  | nil => simp [totS]
  | cons x xs ih =>
    cases k with
    | zero => simp [totS]
    | succ k =>
      have := ih k
      simp only [List.take_succ_cons, totS]
      omega
theorem totS_mem {xs : List ByteArray} {x : ByteArray} (h : x ∈ xs) : x.size ≤ totS xs := by
  induction xs with
  | nil => cases h
  | cons y ys ih =>
    simp only [totS]
    rcases List.mem_cons.1 h with rfl | h
    · omega
    · have := ih h
      omega
/-- a text has a line's end in it -/
def nlB (x : ByteArray) : Bool := decide (0 ≤ Lib.indexByte x.data.toList 10)
def joB (xs : List ByteArray) : Bool := xs.all (fun x => !nlB x) && decide ((jourS 0 xs).size ≤ 16000)
def joT (xs : List ByteArray) : ByteArray := if joB xs then jourS 0 xs else ⟨#[]⟩
theorem jo_nl {xs : List ByteArray} {x : ByteArray} (hx : x ∈ xs) (h : nlB x = true) : joB xs = false := by
  unfold joB
  rw [List.all_eq_false.2 ⟨x, hx, by simp [h]⟩]
  rfl
theorem jo_long {xs : List ByteArray} {k : Nat} (h : 16000 < (jourS 0 (xs.take k)).size) : joB xs = false := by
  have := jour_take xs k
  unfold joB
  rw [decide_eq_false (by omega), Bool.and_false]
theorem jo_tot {xs : List ByteArray} {k : Nat} (hk : k ≤ xs.length) (h : 16000 < totS (xs.take k) + 3 * k) : joB xs = false := by
  have := jour_ge (xs.take k) 0
  rw [List.length_take, Nat.min_eq_left hk] at this
  exact jo_long (k := k) (by omega)
theorem jo_yes {xs : List ByteArray} (h : ∀ x ∈ xs, nlB x = false) (h2 : (jourS 0 xs).size ≤ 16000) : joB xs = true := by
  unfold joB
  rw [List.all_eq_true.2 (fun x hx => by rw [h x hx]; rfl), decide_eq_true h2]
  rfl
theorem nl_some {x : ByteArray} {k : Nat} (hk : k < x.size) (h : x[k].toNat = 10) : nlB x = true := by
  unfold nlB
  rw [decide_eq_true_eq]
  by_cases hn : Lib.indexByte x.data.toList 10 = -1
  · have := Lib.indexByte_none hn k
    rw [List.getElem?_eq_getElem (by rw [size_list']; exact hk)] at this
    refine absurd ?_ this
    congr 1
    show x[k] = 10
    rw [← UInt8.toNat_inj]
    exact h
  · have := Lib.indexByte_ge x.data.toList 10
    omega
theorem nl_none {x : ByteArray} (h : ∀ k (hk : k < x.size), x[k].toNat ≠ 10) : nlB x = false := by
  unfold nlB
  rw [decide_eq_false_iff_not]
  intro hn
  obtain ⟨o, ho⟩ : ∃ o : Nat, Lib.indexByte x.data.toList 10 = o := ⟨(Lib.indexByte x.data.toList 10).toNat, by omega⟩
  have h1 := (Lib.indexByte_some ho).1
  obtain ⟨hlt, h2⟩ := List.getElem?_eq_some_iff.1 h1
  rw [size_list'] at hlt
  refine h o hlt ?_
  show (x.data.toList[o]'(by rw [size_list']; exact hlt)).toNat = 10
  rw [h2]
  rfl

theorem IsB.below {T e : TypeId} {B b : Nat} {bs : List Value} {w w' : World} (h : Lib.IsBuilder T e B b bs w) (hb : Below w.heap.size w w') : Lib.IsBuilder T e B b bs w' := by
  have go : ∀ p, Lib.BuilderAt T e B b p bs w → Lib.BuilderAt T e B b p bs w' := fun p h => by
    have hlt := h.lt
    obtain ⟨h1, v, h2, h3, h4⟩ := h
    exact ⟨h1, v, by rw [hb.block _ hlt]; exact h2, own_below h3 hb (Nat.le_refl _), h4⟩
  rcases h with h | h
  · exact .inl (go _ h)
  · exact .inr (go _ h)
theorem strCells_app (a b : ByteArray) : Lib.strCells a ++ Lib.strCells b = Lib.strCells (a ++ b) := by
  rw [Lib.strCells_eq, Lib.strCells_eq, Lib.strCells_eq, ← Lib.byteCells_append]
  simp
theorem strCells_len (a : ByteArray) : (Lib.strCells a).length = a.size := by
  rw [Lib.strCells_length]

end Go.Proofs.YthccklkonfappaaDoor
