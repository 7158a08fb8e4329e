/-
  Plain: lists sorted by weights, equal ones in their order; lists merged; pairs.
  Conditions: none.
-/
import Derived.Test.YtkmfjadlobpbkaaSY
namespace Go.Proofs.Ytkmfjadlobpbkaa

section
variable {α : Type}
/-- one put behind all that weigh no more -/
def insL (x : Int × α) : List (Int × α) → List (Int × α)
  | [] => [x]
  | y :: l => if x.1 < y.1 then x :: y :: l else y :: insL x l
def sortL (P : List (Int × α)) : List (Int × α) := P.foldl (fun acc x => insL x acc) []
/-- weights ascend -/
def Asc (P : List (Int × α)) : Prop := P.Pairwise fun a b => a.1 ≤ b.1
theorem insL_len (x : Int × α) : ∀ l, (insL x l).length = l.length + 1
  | [] => rfl
  | y :: l => by
    rw [insL]
    split
    · rfl
    · rw [List.length_cons, insL_len x l, List.length_cons]
theorem insL_mem (x : Int × α) : ∀ l z, z ∈ insL x l ↔ z = x ∨ z ∈ l
  | [], z => by simp [insL]
  | y :: l, z => by
    rw [insL]
    split
    · simp
    · rw [List.mem_cons, insL_mem x l z, List.mem_cons]
      constructor
      · rintro (h | h | h)
        · exact .inr (.inl h)
        · exact .inl h
        · exact .inr (.inr h)
      · rintro (h | h | h)
        · exact .inr (.inl h)
        · exact .inl h
        · exact .inr (.inr h)
theorem insL_asc (x : Int × α) : ∀ l, Asc l → Asc (insL x l)
  | [], _ => List.pairwise_singleton _ _
  | y :: l, h => by
    have h1 := List.pairwise_cons.1 h
    rw [insL]
    split
    · rename_i hlt
      refine List.pairwise_cons.2 ⟨fun z hz => ?_, h⟩
      rcases List.mem_cons.1 hz with rfl | hz
      · omega
      · have := h1.1 z hz; omega
    · rename_i hlt
      refine List.pairwise_cons.2 ⟨fun z hz => ?_, insL_asc x l h1.2⟩
      rcases (insL_mem x l z).1 hz with rfl | hz
      · omega
      · exact h1.1 z hz
theorem foldl_ins_asc : ∀ (P acc : List (Int × α)), Asc acc → Asc (P.foldl (fun acc x => insL x acc) acc)
  | [], _, h => h
  | x :: P, acc, h => foldl_ins_asc P (insL x acc) (insL_asc x acc h)
theorem foldl_ins_len : ∀ (P acc : List (Int × α)), (P.foldl (fun acc x => insL x acc) acc).length = P.length + acc.length
  | [], acc => by simp
  | x :: P, acc => by rw [List.foldl_cons, foldl_ins_len P, insL_len, List.length_cons]; omega
theorem foldl_ins_mem : ∀ (P acc : List (Int × α)) (z), z ∈ P.foldl (fun acc x => insL x acc) acc ↔ z ∈ P ∨ z ∈ acc
  | [], acc, z => by simp
  | x :: P, acc, z => by
    rw [List.foldl_cons, foldl_ins_mem P, insL_mem, List.mem_cons]
    constructor
    · rintro (h | h | h)
      · exact .inl (.inr h)
      · exact .inl (.inl h)
      · exact .inr h
    · rintro ((h | h) | h)
      · exact .inr (.inl h)
      · exact .inl h
      · exact .inr (.inr h)
theorem sortL_asc (P : List (Int × α)) : Asc (sortL P) := foldl_ins_asc P [] List.Pairwise.nil
theorem sortL_len (P : List (Int × α)) : (sortL P).length = P.length := by unfold sortL; rw [foldl_ins_len]; simp
theorem sortL_mem (P : List (Int × α)) (z) : z ∈ sortL P ↔ z ∈ P := by unfold sortL; rw [foldl_ins_mem]; simp
/-- behind all that weigh no more -/
theorem insL_end (x : Int × α) : ∀ l : List (Int × α), (∀ y ∈ l, y.1 ≤ x.1) → insL x l = l ++ [x]
  | [], _ => rfl
  | y :: l, h => by
    have := h y List.mem_cons_self
    rw [insL, if_neg (by omega), insL_end x l fun z hz => h z (List.mem_cons_of_mem _ hz)]
    rfl
theorem insL_over (x : Int × α) : ∀ (T D : List (Int × α)), (∀ y ∈ T, y.1 ≤ x.1) → insL x (T ++ D) = T ++ insL x D
  | [], D, _ => rfl
  | y :: T, D, h => by
    have := h y List.mem_cons_self
    show insL x (y :: (T ++ D)) = y :: (T ++ insL x D)
    rw [insL, if_neg (by omega), insL_over x T D fun z hz => h z (List.mem_cons_of_mem _ hz)]
theorem insL_split (x : Int × α) : ∀ l : List (Int × α), insL x l = l.takeWhile (fun y => decide (y.1 ≤ x.1)) ++ x :: l.dropWhile (fun y => decide (y.1 ≤ x.1))
  | [] => rfl
  | y :: l => by
    rw [insL]
    by_cases h : x.1 < y.1
    · rw [if_pos h, List.takeWhile_cons, List.dropWhile_cons, if_neg (by simp; omega), if_neg (by simp; omega)]
      rfl
    · rw [if_neg h, List.takeWhile_cons, List.dropWhile_cons, if_pos (by simp; omega), if_pos (by simp; omega), insL_split x l]
      rfl
/-- what is sorted stays -/
theorem foldl_ins_sorted : ∀ (P acc : List (Int × α)), Asc (acc ++ P) → P.foldl (fun acc x => insL x acc) acc = acc ++ P
  | [], acc, _ => by simp
  | x :: P, acc, h => by
    have h1 := (List.pairwise_append.1 h).2.2
    rw [List.foldl_cons, insL_end x acc fun y hy => h1 y hy x List.mem_cons_self, foldl_ins_sorted P (acc ++ [x]) (by rw [List.append_assoc]; exact h), List.append_assoc]
    rfl
theorem sortL_id {P : List (Int × α)} (h : Asc P) : sortL P = P := foldl_ins_sorted P [] h
/-- two lists merged, the first ones first for equal ones -/
def mergeL : List (Int × α) → List (Int × α) → List (Int × α)
  | a, [] => a
  | a, b :: bs => a.takeWhile (fun y => decide (y.1 ≤ b.1)) ++ b :: mergeL (a.dropWhile (fun y => decide (y.1 ≤ b.1))) bs
theorem foldl_ins_over : ∀ (P T D : List (Int × α)), (∀ x ∈ P, ∀ y ∈ T, y.1 ≤ x.1) → P.foldl (fun acc x => insL x acc) (T ++ D) = T ++ P.foldl (fun acc x => insL x acc) D
  | [], _, _, _ => rfl
  | x :: P, T, D, h => by
    rw [List.foldl_cons, insL_over x T D fun y hy => h x List.mem_cons_self y hy, foldl_ins_over P T (insL x D) fun z hz => h z (List.mem_cons_of_mem _ hz)]
    rfl
theorem mem_takeWhile {p : Int × α → Bool} : ∀ {l : List (Int × α)} {y}, y ∈ l.takeWhile p → p y = true
  | [], _, h => by cases h
  | a :: l, y, h => by
    rw [List.takeWhile_cons] at h
    split at h
    · rename_i ha
      rcases List.mem_cons.1 h with rfl | h
      · exact ha
      · exact mem_takeWhile h
    · cases h
theorem foldl_ins_merge : ∀ (b a : List (Int × α)), Asc b → b.foldl (fun acc x => insL x acc) a = mergeL a b
  | [], a, _ => by cases a <;> rfl
  | x :: b, a, h => by
    have h1 := List.pairwise_cons.1 h
    rw [List.foldl_cons, insL_split, mergeL, show a.takeWhile (fun y => decide (y.1 ≤ x.1)) ++ x :: a.dropWhile (fun y => decide (y.1 ≤ x.1)) = (a.takeWhile (fun y => decide (y.1 ≤ x.1)) ++ [x]) ++ a.dropWhile (fun y => decide (y.1 ≤ x.1)) by simp, foldl_ins_over b _ _ ?_, foldl_ins_merge b _ h1.2]
    · simp
    · intro z hz y hy
      have hxz := h1.1 z hz
      rcases List.mem_append.1 hy with hy | hy
      · have := mem_takeWhile hy
        rw [decide_eq_true_eq] at this
        omega
      · obtain rfl := List.mem_singleton.1 hy
        exact hxz
/-- a sorted list and another one, sorted together -/
theorem sortL_append {a b : List (Int × α)} (ha : Asc a) (hb : Asc b) : sortL (a ++ b) = mergeL a b := by
  unfold sortL
  rw [List.foldl_append]
  have h := sortL_id ha
  unfold sortL at h
  rw [h]
  exact foldl_ins_merge b a hb
/-- pairs, in order -/
def pairL (f : α → α → α) : List (Int × α) → List (Int × α)
  | a :: b :: l => (a.1 + b.1, f a.2 b.2) :: pairL f l
  | _ => []
theorem pairL_asc (f : α → α → α) : ∀ l : List (Int × α), Asc l → Asc (pairL f l) ∧ ∀ a b l', l = a :: b :: l' → ∀ z ∈ pairL f l', a.1 + b.1 ≤ z.1
  | [], _ => ⟨List.Pairwise.nil, by rintro a b l' h; cases h⟩
  | [_], _ => ⟨List.Pairwise.nil, by rintro a b l' h; cases h⟩
  | a :: b :: l, h => by
    have h1 := List.pairwise_cons.1 h
    have h2 := List.pairwise_cons.1 h1.2
    have ih := pairL_asc f l h2.2
    have hz : ∀ z ∈ pairL f l, a.1 + b.1 ≤ z.1 := by
      intro z hz
      rcases l with _ | ⟨c, _ | ⟨d, l⟩⟩
      · cases hz
      · cases hz
      · have h3 := h1.1 c (by simp)
        have h4 := h2.1 d (by simp)
        rcases List.mem_cons.1 hz with rfl | hz
        · show a.1 + b.1 ≤ c.1 + d.1; omega
        · have h5 := ih.2 c d l rfl z hz; omega
    refine ⟨List.pairwise_cons.2 ⟨hz, ih.1⟩, ?_⟩
    rintro a' b' l' he
    cases he
    exact hz
theorem pairL_len (f : α → α → α) : ∀ l : List (Int × α), (pairL f l).length = l.length / 2
  | [] => by simp [pairL]
  | [a] => by simp [pairL]
  | a :: b :: l => by
    show (pairL f l).length + 1 = (l.length + 1 + 1) / 2
    rw [pairL_len f l]; omega
end

/-! ### The same with what goes with the weights turned -/
section
variable {α β : Type} (g : α → β)
def mapS (P : List (Int × α)) : List (Int × β) := P.map fun t => (t.1, g t.2)
theorem mapS_ins (x : Int × α) : ∀ l, mapS g (insL x l) = insL (x.1, g x.2) (mapS g l)
  | [] => rfl
  | y :: l => by
    show mapS g (if x.1 < y.1 then _ else _) = if x.1 < y.1 then _ else _
    split
    · rfl
    · show (y.1, g y.2) :: mapS g (insL x l) = _
      rw [mapS_ins x l]
      rfl
theorem mapS_foldl : ∀ (P acc : List (Int × α)), mapS g (P.foldl (fun acc x => insL x acc) acc) = (mapS g P).foldl (fun acc x => insL x acc) (mapS g acc)
  | [], _ => rfl
  | x :: P, acc => by
    rw [List.foldl_cons, mapS_foldl P, mapS_ins]
    rfl
theorem mapS_sort (P : List (Int × α)) : mapS g (sortL P) = sortL (mapS g P) := mapS_foldl g P []
theorem mapS_pair (f : α → α → α) (f' : β → β → β) (h : ∀ a b, g (f a b) = f' (g a) (g b)) : ∀ l, mapS g (pairL f l) = pairL f' (mapS g l)
  | [] => rfl
  | [_] => rfl
  | a :: b :: l => by
    show (a.1 + b.1, g (f a.2 b.2)) :: mapS g (pairL f l) = (a.1 + b.1, f' (g a.2) (g b.2)) :: pairL f' (mapS g l)
    rw [h, mapS_pair f f' h l]
end

/-! ### A row of places that is sorted is the sorted list -/
section
variable (key : Nat → Int)
def insI (m : Nat) : List Nat → List Nat
  | [] => [m]
  | y :: l => if key m < key y then m :: y :: l else y :: insI m l
def ordI (n : Nat) : List Nat := (List.range n).foldl (fun acc m => insI key m acc) []
variable {key}
theorem insI_mem (m : Nat) : ∀ l z, z ∈ insI key m l ↔ z = m ∨ z ∈ l
  | [], z => by simp [insI]
  | y :: l, z => by
    rw [insI]
    split
    · simp
    · rw [List.mem_cons, insI_mem m l z, List.mem_cons]
      constructor
      · rintro (h | h | h)
        · exact .inr (.inl h)
        · exact .inl h
        · exact .inr (.inr h)
      · rintro (h | h | h)
        · exact .inr (.inl h)
        · exact .inl h
        · exact .inr (.inr h)
theorem insI_len (m : Nat) : ∀ l, (insI key m l).length = l.length + 1
  | [] => rfl
  | y :: l => by
    rw [insI]
    split
    · rfl
    · rw [List.length_cons, insI_len m l, List.length_cons]
theorem insI_lo (m : Nat) : ∀ l : List Nat, (∀ z ∈ l, z < m) → l.Pairwise (lo key) → (insI key m l).Pairwise (lo key)
  | [], _, _ => List.pairwise_singleton _ _
  | y :: l, hm, h => by
    have h1 := List.pairwise_cons.1 h
    rw [insI]
    split
    · rename_i hlt
      refine List.pairwise_cons.2 ⟨fun z hz => ?_, h⟩
      rcases List.mem_cons.1 hz with rfl | hz
      · exact lo_of_lt key hlt
      · exact lo_trans key (lo_of_lt key hlt) (h1.1 z hz)
    · rename_i hlt
      refine List.pairwise_cons.2 ⟨fun z hz => ?_, insI_lo m l (fun z hz => hm z (List.mem_cons_of_mem _ hz)) h1.2⟩
      rcases (insI_mem m l z).1 hz with rfl | hz
      · exact lo_of_not key (hm y List.mem_cons_self) hlt
      · exact h1.1 z hz
theorem ordI_facts : ∀ n, (ordI key n).length = n ∧ (∀ z, z ∈ ordI key n ↔ z < n) ∧ (ordI key n).Pairwise (lo key)
  | 0 => ⟨rfl, by simp [ordI], List.Pairwise.nil⟩
  | n + 1 => by
    obtain ⟨h1, h2, h3⟩ := ordI_facts n
    have e : ordI key (n + 1) = insI key n (ordI key n) := by unfold ordI; rw [List.range_succ, List.foldl_append]; rfl
    rw [e]
    refine ⟨by rw [insI_len, h1], fun z => ?_, insI_lo n _ (fun z hz => (h2 z).1 hz) h3⟩
    rw [insI_mem, h2]
    omega
theorem ordI_is {q : Nat → Nat} {n : Nat} (hs : Srt key q 0 n) (hf : Shuf (fun i => i) q 0 n) : (List.range n).map q = ordI key n := by
  obtain ⟨h1, h2, h3⟩ := ordI_facts (key := key) n
  have hp : Srt key (fun i => (ordI key n).getD i 0) 0 n := by
    intro i j _ hij hj
    dsimp only
    rw [List.getD_eq_getElem?_getD, List.getD_eq_getElem?_getD, List.getElem?_eq_getElem (by omega), List.getElem?_eq_getElem (by omega)]
    exact List.pairwise_iff_getElem.1 h3 i j (by omega) (by omega) hij
  have hu := srt_unique (key := key) 0 n (by omega) hp hs (fun v => by
    rw [hf.img v]
    constructor
    · rintro ⟨i, _, hi, rfl⟩
      obtain ⟨k, hk, he⟩ := List.mem_iff_getElem.1 ((h2 i).2 hi)
      exact ⟨k, Nat.zero_le _, by omega, by dsimp only; rw [List.getD_eq_getElem?_getD, List.getElem?_eq_getElem hk]; exact he⟩
    · rintro ⟨i, _, hi, he⟩
      dsimp only at he
      rw [List.getD_eq_getElem?_getD, List.getElem?_eq_getElem (by omega)] at he
      refine ⟨v, Nat.zero_le _, (h2 v).1 ?_, rfl⟩
      rw [← he]
      exact List.getElem_mem _)
  apply List.ext_getElem (by simp [h1])
  intro i i1 i2
  have hi : i < n := by simpa using i1
  have h := hu i (Nat.zero_le _) hi
  rw [List.getD_eq_getElem?_getD, List.getElem?_eq_getElem (by omega)] at h
  simpa using h
theorem map_insI {α : Type} (f : Nat → Int × α) (m : Nat) : ∀ l, (insI (fun v => (f v).1) m l).map f = insL (f m) (l.map f)
  | [] => rfl
  | y :: l => by
    show (if (f m).1 < (f y).1 then _ else _ : List Nat).map f = if (f m).1 < (f y).1 then _ else _
    split
    · rfl
    · show f y :: (insI _ m l).map f = _
      rw [map_insI f m l]
theorem map_ordI {α : Type} (f : Nat → Int × α) (n : Nat) : (ordI (fun v => (f v).1) n).map f = sortL ((List.range n).map f) := by
  induction n with
  | zero => rfl
  | succ n ih =>
    have e : ordI (fun v => (f v).1) (n + 1) = insI (fun v => (f v).1) n (ordI (fun v => (f v).1) n) := by unfold ordI; rw [List.range_succ, List.foldl_append]; rfl
    rw [e, map_insI, ih]
    unfold sortL
    rw [List.range_succ, List.map_append, List.foldl_append]
    rfl
/-- what a sort leaves is the sorted list -/
theorem sorted_is {α : Type} (f : Nat → Int × α) {q : Nat → Nat} {n : Nat} (hs : Srt (fun v => (f v).1) q 0 n) (hf : Shuf (fun i => i) q 0 n) : (List.range n).map (fun i => f (q i)) = sortL ((List.range n).map f) := by
  rw [← map_ordI, ← ordI_is hs hf, List.map_map]
  rfl
end

end Go.Proofs.Ytkmfjadlobpbkaa
