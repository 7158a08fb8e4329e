/-
  Plain: blocks that are peeled off drops are the blocks that the drops were made of.
  Conditions: as each theorem says.
-/
import Derived.Test.YtlcnfaodkglhpaaPE
namespace Go.Proofs.Ytlcnfaodkglhpaa
open Go.RowKit

theorem xor_nat (a b : Nat) (ha : a < 256) (hb : b < 256) : bits .xor .i64 (a : Int) (b : Int) = ((a ^^^ b : Nat) : Int) := by
  have e1 : BitVec.ofInt 64 (a : Int) = BitVec.ofNat 64 a := BitVec.ofInt_natCast 64 a
  have e2 : BitVec.ofInt 64 (b : Int) = BitVec.ofNat 64 b := BitVec.ofInt_natCast 64 b
  have e3 : bits .xor .i64 (a : Int) (b : Int) = IntKind.i64.wrap ((BitVec.ofInt 64 (a : Int) ^^^ BitVec.ofInt 64 (b : Int)).toNat : Int) := rfl
  have h1 : a ^^^ b < 2 ^ 8 := Nat.xor_lt_two_pow (by omega) (by omega)
  have h2 : (BitVec.ofNat 64 a ^^^ BitVec.ofNat 64 b).toNat = a ^^^ b := by
    rw [BitVec.toNat_xor, BitVec.toNat_ofNat, BitVec.toNat_ofNat, Nat.mod_eq_of_lt (by omega), Nat.mod_eq_of_lt (by omega)]
  rw [e3, e1, e2, h2, IntWalk.i64_in _ (by omega)]

/-- all blocks are bytes -/
def By (bl : List Int) : Prop := ∀ i, 0 ≤ bl.getD i 0 ∧ bl.getD i 0 ≤ 255
/-- what is known is right -/
def Agr (b bl : List Int) : Prop := b.length = bl.length ∧ ∀ i, b.getD i 0 = -1 ∨ b.getD i 0 = bl.getD i 0
/-- the byte at a place -/
def byt (bl : List Int) (p : Int) : Nat := (bl.getD p.toNat 0).toNat
theorem byt_eq {bl : List Int} (hb : By bl) (p : Int) : bl.getD p.toNat 0 = (byt bl p : Int) := by
  have := hb p.toNat
  unfold byt
  omega
theorem byt_lt {bl : List Int} (hb : By bl) (p : Int) : byt bl p < 256 := by
  have := hb p.toNat
  unfold byt
  omega
def aK (bl ps : List Int) : Nat → Nat
  | 0 => 0
  | k + 1 => aK bl ps k ^^^ byt bl (ps.getD k 0)
theorem aK_lt {bl : List Int} (hb : By bl) (ps : List Int) (k : Nat) : aK bl ps k < 256 := by
  induction k with
  | zero => exact Nat.zero_lt_succ _
  | succ k ih => exact Nat.xor_lt_two_pow (n := 8) ih (byt_lt hb _)
theorem xorAll_aK {bl : List Int} (hb : By bl) (ps : List Int) {k : Nat} (hk : k ≤ ps.length) : xorAll bl ps k = (aK bl ps k : Int) := by
  induction k with
  | zero => rfl
  | succ k ih =>
    have e : ps.getD k 0 = ps[k] := by simp [List.getD, show k < ps.length by omega]
    rw [xorAll_succ bl ps k (by omega), ih (by omega), ← e, byt_eq hb, xor_nat _ _ (aK_lt hb ps k) (byt_lt hb _)]
    rfl
def uK (b bl ps : List Int) : Nat → Nat
  | 0 => 0
  | k + 1 => if unk b (ps.getD k 0) then uK b bl ps k ^^^ byt bl (ps.getD k 0) else uK b bl ps k
theorem uK_zero {b bl ps : List Int} {k : Nat} (h : cntK b ps k = 0) : uK b bl ps k = 0 := by
  induction k with
  | zero => rfl
  | succ k ih =>
    rw [cntK] at h
    rw [uK]
    split at h
    · omega
    · rename_i hu
      rw [if_neg hu]
      exact ih h
theorem uK_one {b bl ps : List Int} {k : Nat} (h : cntK b ps k = 1) : uK b bl ps k = byt bl (opnK b ps k) := by
  induction k with
  | zero => exact absurd h (by simp [cntK])
  | succ k ih =>
    rw [cntK] at h
    rw [uK, opnK]
    split at h
    · rename_i hu
      rw [if_pos hu, if_pos hu, uK_zero (by omega), Nat.zero_xor]
    · rename_i hu
      rw [if_neg hu, if_neg hu]
      exact ih h
theorem xK_is {b bl : List Int} (hb : By bl) (ha : Agr b bl) (ps : List Int) (d : Nat) (hd : d < 256) (k : Nat) :
    ∃ m : Nat, m < 256 ∧ xK b ps (d : Int) k = (m : Int) ∧ m ^^^ uK b bl ps k = d ^^^ aK bl ps k := by
  induction k with
  | zero => exact ⟨d, hd, rfl, rfl⟩
  | succ k ih =>
    obtain ⟨m, hm, h1, h2⟩ := ih
    rw [xK, uK, aK]
    by_cases hu : unk b (ps.getD k 0) = true
    · rw [if_pos hu, if_pos hu]
      exact ⟨m, hm, h1, by rw [← Nat.xor_assoc, h2, Nat.xor_assoc]⟩
    · rw [if_neg hu, if_neg hu]
      have h3 : b.getD (ps.getD k 0).toNat 0 = (byt bl (ps.getD k 0) : Int) := by
        rcases ha.2 (ps.getD k 0).toNat with h | h
        · exact absurd (show unk b (ps.getD k 0) = true by unfold unk; rw [h]; rfl) hu
        · rw [h, byt_eq hb]
      refine ⟨m ^^^ byt bl (ps.getD k 0), Nat.xor_lt_two_pow (n := 8) hm (byt_lt hb _), by rw [h1, h3, xor_nat _ _ hm (byt_lt hb _)], ?_⟩
      rw [← Nat.xor_assoc d, ← h2, Nat.xor_assoc, Nat.xor_assoc, Nat.xor_comm (byt bl _)]
theorem sol_right {b bl ps : List Int} (hb : By bl) (ha : Agr b bl) {d : Int} (hd : d = xorAll bl ps ps.length) {o : Int × Int} (h : sol b ps d = some o) : o.2 = bl.getD o.1.toNat 0 := by
  rw [xorAll_aK hb ps (Nat.le_refl _)] at hd
  subst hd
  unfold sol at h
  split at h
  · rename_i hc
    have hc : cntK b ps ps.length = 1 := by simpa using hc
    obtain ⟨m, _, h1, h2⟩ := xK_is hb ha ps _ (aK_lt hb ps ps.length) ps.length
    rw [Nat.xor_self, uK_one hc] at h2
    have h3 : m = byt bl (opnK b ps ps.length) := by
      have h4 : (m ^^^ byt bl (opnK b ps ps.length)) ^^^ byt bl (opnK b ps ps.length) = byt bl (opnK b ps ps.length) := by rw [h2, Nat.zero_xor]
      rwa [Nat.xor_assoc, Nat.xor_self, Nat.xor_zero] at h4
    obtain rfl := Option.some.inj h
    show xK b ps _ ps.length = _
    rw [h1, byt_eq hb, h3]
  · exact absurd h (by simp)
theorem getD_set (b : List Int) (j i : Nat) (x : Int) : (b.set j x).getD i 0 = if i = j ∧ i < b.length then x else b.getD i 0 := by
  by_cases h : i = j
  · subst h
    by_cases h2 : i < b.length
    · simp [List.getD, h2]
    · simp [List.getD, h2]
  · have h2 : ¬ j = i := fun e => h e.symm
    simp [List.getD, h, h2]
theorem Agr.set {b bl : List Int} (ha : Agr b bl) {j : Nat} {x : Int} (h : x = bl.getD j 0) : Agr (b.set j x) bl := by
  refine ⟨by rw [List.length_set]; exact ha.1, fun i => ?_⟩
  rw [getD_set]
  split
  · rename_i hi
    rw [hi.1]
    exact .inr h
  · exact ha.2 i
theorem peelK_right {P : List (List Int)} {ds b bl : List Int} (hb : By bl) (ha : Agr b bl) (hd : ∀ i, i < ds.length → ds.getD i 0 = xorAll bl (P.getD i []) (P.getD i []).length) {k : Nat} (hk : k ≤ ds.length) {o : Int × Int} (h : peelK P ds b k = some o) : o.2 = bl.getD o.1.toNat 0 := by
  induction k with
  | zero => exact absurd h (by simp [peelK])
  | succ k ih =>
    rw [peelK] at h
    split at h
    · rename_i o2 h2
      obtain rfl := Option.some.inj h
      exact ih (by omega) h2
    · exact sol_right hb ha (hd k (by omega)) h
theorem peelGo_right {P : List (List Int)} {ds bl : List Int} (hb : By bl) (hd : ∀ i, i < ds.length → ds.getD i 0 = xorAll bl (P.getD i []) (P.getD i []).length) (f : Nat) {b : List Int} (ha : Agr b bl) : Agr (peelGo P ds f b) bl := by
  induction f generalizing b with
  | zero => exact ha
  | succ f ih =>
    rw [peelGo]
    split
    · exact ha
    · rename_i o h
      exact ih (ha.set (peelK_right hb ha hd (Nat.le_refl _) h))
theorem agr_none (bl : List Int) : Agr (List.replicate bl.length (-1)) bl := by
  refine ⟨by simp, fun i => ?_⟩
  by_cases h : i < bl.length
  · exact .inl (by simp [List.getD, h])
  · exact .inr (by simp [List.getD, h])
theorem agr_all {b bl : List Int} (ha : Agr b bl) (h : ∀ x ∈ b, 0 ≤ x) : b = bl := by
  refine List.ext_getElem ha.1 fun i h1 h2 => ?_
  have e1 : b.getD i 0 = b[i] := by simp [List.getD, h1]
  have e2 : bl.getD i 0 = bl[i] := by simp [List.getD, h2]
  have h3 := ha.2 i
  rw [e1, e2] at h3
  rcases h3 with h3 | h3
  · have := h _ (List.getElem_mem h1)
    omega
  · exact h3
/-- THE LAW: peeled blocks are the blocks -/
theorem peel_right {n : Int} {ss ds bl : List Int} (hn : n.toNat = bl.length) (hb : By bl) (hl : ss.length = ds.length) (hd : ∀ i, i < ds.length → ds.getD i 0 = xorAll bl (dropL n (ss.getD i 0)) (dropL n (ss.getD i 0)).length) (h : peelOk n ss ds = true) : peelL n ss ds = bl := by
  unfold peelL
  rw [if_pos h]
  unfold peelOk at h
  rw [Bool.and_eq_true, List.all_eq_true] at h
  have h2 := h.2
  unfold peelEndL peelEnd at h2 ⊢
  rw [hn] at h2 ⊢
  refine agr_all (peelGo_right hb (fun i hi => ?_) _ (agr_none bl)) (fun x hx => by simpa using h2 x hx)
  rw [hd i hi]
  have e : (ss.map fun s => dropL n s).getD i [] = dropL n (ss.getD i 0) := by
    have : i < ss.length := by omega
    simp [List.getD, this]
  rw [e]

/-- a drop has a place -/
theorem trues_some {tk : List Bool} {k i : Nat} (hi : i < k) (h : tk.getD i false = true) : (i : Int) ∈ trues tk k := by
  unfold trues
  exact List.mem_map.2 ⟨i, List.mem_filter.2 ⟨List.mem_range.2 hi, h⟩, rfl⟩
theorem dropL_pos (n s : Int) (h : 1 ≤ n) : 1 ≤ (dropL n s).length := by
  have h1 := dropK_bd n s h
  have h2 := dst_count n.toNat (by omega) (lcg s) (dropK n s).toNat (by omega)
  have h3 : 0 < (dst n.toNat (lcg s) (dropK n s).toNat).1.count true := by omega
  obtain ⟨i, hi, h4⟩ := List.mem_iff_getElem.1 (List.count_pos_iff.1 h3)
  have h5 := dst_len n.toNat (lcg s) (dropK n s).toNat
  have h6 : (i : Int) ∈ dropL n s := by
    unfold dropL
    exact trues_some (by omega) (by simp [List.getD, hi, h4])
  exact List.length_pos_of_mem h6

end Go.Proofs.Ytlcnfaodkglhpaa
