/-
  Drops peeled: plain, and contracts.
  Conditions: lengths at most 1048576.
-/
import Derived.Test.YtlcnfaodkglhpaaCD
import Derived.Test.YtlcnfaodkglhpaaMK
import Derived.Deep.RegionLaw
import Derived.Laws.CopyOwn
namespace Go.Proofs.Ytlcnfaodkglhpaa
open Go.RowKit

/-- whether a place is not known -/
def unk (b : List Int) (p : Int) : Bool := decide (b.getD p.toNat 0 < 0)
def cntK (b ps : List Int) : Nat → Nat
  | 0 => 0
  | k + 1 => if unk b (ps.getD k 0) then cntK b ps k + 1 else cntK b ps k
def opnK (b ps : List Int) : Nat → Int
  | 0 => -1
  | k + 1 => if unk b (ps.getD k 0) then ps.getD k 0 else opnK b ps k
def xK (b ps : List Int) (d : Int) : Nat → Int
  | 0 => d
  | k + 1 => if unk b (ps.getD k 0) then xK b ps d k else bits .xor .i64 (xK b ps d k) (b.getD (ps.getD k 0).toNat 0)
def sol (b ps : List Int) (d : Int) : Option (Int × Int) := if cntK b ps ps.length == 1 then some (opnK b ps ps.length, xK b ps d ps.length) else none
theorem cntK_mono (b ps : List Int) {k m : Nat} (h : k ≤ m) : cntK b ps k ≤ cntK b ps m := by
  induction m with
  | zero => rw [show k = 0 by omega]; exact Nat.le_refl _
  | succ m ih =>
    by_cases hk : k = m + 1
    · rw [hk]; exact Nat.le_refl _
    · have := ih (by omega)
      rw [cntK]
      split <;> omega
/-- bytes, or not known -/
def Bl (n : Nat) (b : List Int) : Prop := b.length = n ∧ ∀ x ∈ b, -1 ≤ x ∧ x ≤ 255
theorem Bl.getD {n : Nat} {b : List Int} (h : Bl n b) (k : Nat) : -1 ≤ b.getD k 0 ∧ b.getD k 0 ≤ 255 := by
  by_cases hk : k < b.length
  · rw [show b.getD k 0 = b[k] from by simp [List.getD, hk]]
    exact h.2 _ (List.getElem_mem hk)
  · rw [show b.getD k 0 = 0 from by simp [List.getD, List.getElem?_eq_none (show b.length ≤ k by omega)]]
    omega
theorem xor_bd0 : ∀ a < 256, ∀ b < 256, 0 ≤ bits .xor .i64 ((a : Nat) : Int) ((b : Nat) : Int) ∧ bits .xor .i64 ((a : Nat) : Int) ((b : Nat) : Int) ≤ 255 := by
  intro a ha b hb
  have e1 : BitVec.ofInt 64 (a : Int) = BitVec.ofNat 64 a := BitVec.ofInt_natCast 64 a
  have e2 : BitVec.ofInt 64 (b : Int) = BitVec.ofNat 64 b := BitVec.ofInt_natCast 64 b
  have e3 : bits .xor .i64 (a : Int) (b : Int) = IntKind.i64.wrap ((BitVec.ofInt 64 (a : Int) ^^^ BitVec.ofInt 64 (b : Int)).toNat : Int) := rfl
  have h1 : a ^^^ b < 2 ^ 8 := Nat.xor_lt_two_pow (by omega) (by omega)
  have h2 : (BitVec.ofNat 64 a ^^^ BitVec.ofNat 64 b).toNat = a ^^^ b := by
    rw [BitVec.toNat_xor, BitVec.toNat_ofNat, BitVec.toNat_ofNat, Nat.mod_eq_of_lt (by omega), Nat.mod_eq_of_lt (by omega)]
  rw [e3, e1, e2, h2, IntWalk.i64_in _ (by omega)]
  omega
theorem xor_bd {a b : Int} (h0 : 0 ≤ a) (h1 : a ≤ 255) (h2 : 0 ≤ b) (h3 : b ≤ 255) : 0 ≤ bits .xor .i64 a b ∧ bits .xor .i64 a b ≤ 255 := by
  obtain ⟨a, rfl⟩ : ∃ n : Nat, a = n := ⟨a.toNat, by omega⟩
  obtain ⟨b, rfl⟩ : ∃ n : Nat, b = n := ⟨b.toNat, by omega⟩
  exact xor_bd0 a (by omega) b (by omega)
theorem xK_bd {n : Nat} {b ps : List Int} (hb : Bl n b) {d : Int} (h0 : 0 ≤ d) (h1 : d ≤ 255) (k : Nat) : 0 ≤ xK b ps d k ∧ xK b ps d k ≤ 255 := by
  induction k with
  | zero => exact ⟨h0, h1⟩
  | succ k ih =>
    rw [xK]
    split
    · exact ih
    · rename_i h
      have h2 := hb.getD (ps.getD k 0).toNat
      unfold unk at h
      simp at h
      have h3 : ¬ b.getD (ps.getD k 0).toNat 0 < 0 := by simpa [List.getD] using h
      exact xor_bd ih.1 ih.2 (by omega) h2.2
/-- where one place is not known it is a place, and not known -/
theorem opnK_at {b ps : List Int} {k : Nat} (hk : k ≤ ps.length) : (cntK b ps k = 0 ∧ opnK b ps k = -1) ∨ (1 ≤ cntK b ps k ∧ opnK b ps k ∈ ps ∧ unk b (opnK b ps k) = true) := by
  induction k with
  | zero => exact .inl ⟨rfl, rfl⟩
  | succ k ih =>
    have ih := ih (by omega)
    rw [cntK, opnK]
    by_cases h : unk b (ps.getD k 0) = true
    · rw [if_pos h, if_pos h]
      exact .inr ⟨by omega, by rw [show ps.getD k 0 = ps[k] from by simp [List.getD, show k < ps.length by omega]]; exact List.getElem_mem _, h⟩
    · rw [if_neg h, if_neg h]
      exact ih
/-- the first drop that tells a place -/
def peelK (P : List (List Int)) (ds b : List Int) : Nat → Option (Int × Int)
  | 0 => none
  | k + 1 => match peelK P ds b k with
    | some o => some o
    | none => sol b (P.getD k []) (ds.getD k 0)
def peel1 (P : List (List Int)) (ds b : List Int) : Option (Int × Int) := peelK P ds b ds.length
theorem peelK_stay {P : List (List Int)} {ds b : List Int} {k : Nat} {o : Int × Int} (h : peelK P ds b k = some o) {m : Nat} (hm : k ≤ m) : peelK P ds b m = some o := by
  induction m with
  | zero => rw [show k = 0 by omega] at h; exact h
  | succ m ih =>
    by_cases hk : k = m + 1
    · rw [← hk]; exact h
    · rw [peelK, ih (by omega)]
theorem peelK_none {P : List (List Int)} {ds b : List Int} {k : Nat} (h : peelK P ds b k = none) (hs : sol b (P.getD k []) (ds.getD k 0) = none) : peelK P ds b (k + 1) = none := by rw [peelK, h]; exact hs
theorem peelK_some {P : List (List Int)} {ds b : List Int} {k : Nat} {o : Int × Int} (h : peelK P ds b k = none) (hs : sol b (P.getD k []) (ds.getD k 0) = some o) (hk : k < ds.length) : peel1 P ds b = some o :=
  peelK_stay (k := k + 1) (by rw [peelK, h]; exact hs) hk
def unkn (b : List Int) : Nat := b.countP fun x => decide (x < 0)
def peelGo (P : List (List Int)) (ds : List Int) : Nat → List Int → List Int
  | 0, b => b
  | f + 1, b => match peel1 P ds b with
    | none => b
    | some o => peelGo P ds f (b.set o.1.toNat o.2)
def peelEnd (P : List (List Int)) (ds b : List Int) : List Int := peelGo P ds (unkn b) b
theorem unkn_set {b : List Int} {k : Nat} (hk : k < b.length) (h : b[k] < 0) {x : Int} (hx : 0 ≤ x) : unkn (b.set k x) + 1 = unkn b := by
  unfold unkn
  have h1 := List.countP_set (p := fun x : Int => decide (x < 0)) (l := b) (i := k) (a := x) hk
  rw [h1]
  have h2 : 0 < List.countP (fun x : Int => decide (x < 0)) b := List.countP_pos_iff.2 ⟨b[k], List.getElem_mem hk, by simpa using h⟩
  simp [h, show ¬ x < 0 by omega]
  omega
theorem peelEnd_none {P : List (List Int)} {ds b : List Int} (h : peel1 P ds b = none) : peelEnd P ds b = b := by
  unfold peelEnd
  cases unkn b with
  | zero => rfl
  | succ f => rw [peelGo, h]
theorem peelEnd_some {P : List (List Int)} {ds b : List Int} {o : Int × Int} (h : peel1 P ds b = some o) (hu : unkn (b.set o.1.toNat o.2) + 1 = unkn b) : peelEnd P ds b = peelEnd P ds (b.set o.1.toNat o.2) := by
  unfold peelEnd
  rw [← hu, peelGo, h]
theorem peelEnd_all {P : List (List Int)} {ds b : List Int} (h : unkn b = 0) : peelEnd P ds b = b := by
  unfold peelEnd; rw [h]; rfl
theorem unkn_zero {b : List Int} (h : unkn b = 0) : ∀ x ∈ b, 0 ≤ x := by
  unfold unkn at h
  rw [List.countP_eq_zero] at h
  intro x hx
  have := h x hx
  simp at this
  omega
theorem unkn_pos {b : List Int} (h : 0 < unkn b) : ∃ x ∈ b, x < 0 := by
  unfold unkn at h
  obtain ⟨x, hx, h1⟩ := List.countP_pos_iff.1 h
  exact ⟨x, hx, by simpa using h1⟩
theorem Bl.set {n : Nat} {b : List Int} (h : Bl n b) {x : Int} (h0 : 0 ≤ x) (h1 : x ≤ 255) (k : Nat) : Bl n (b.set k x) := by
  refine ⟨by rw [List.length_set, h.1], fun y hy => ?_⟩
  rcases List.mem_or_eq_of_mem_set hy with hy | rfl
  · exact h.2 y hy
  · omega

def peelOkB (n : Int) (ss ds : List Int) : Bool := inB n 1 32 && (ss.length == ds.length) && decide (ds.length ≤ 64) && ds.all (fun x => inB x 0 255) && ss.all (fun s => inB s 0 4294967295)
def peelEndL (n : Int) (ss ds : List Int) : List Int := peelEnd (ss.map fun s => dropL n s) ds (List.replicate n.toNat (-1))
def peelOk (n : Int) (ss ds : List Int) : Bool := peelOkB n ss ds && (peelEndL n ss ds).all fun x => decide (0 ≤ x)
def peelL (n : Int) (ss ds : List Int) : List Int := if peelOk n ss ds then peelEndL n ss ds else []
theorem peelGo_len (P : List (List Int)) (ds : List Int) (f : Nat) (b : List Int) : (peelGo P ds f b).length = b.length := by
  induction f generalizing b with
  | zero => rfl
  | succ f ih =>
    rw [peelGo]
    split
    · rfl
    · rw [ih, List.length_set]
theorem peelL_len (n : Int) (ss ds : List Int) : (peelL n ss ds).length ≤ 32 := by
  unfold peelL peelOk peelOkB
  split
  · rename_i h
    simp only [Bool.and_eq_true] at h
    have h1 := inB_true.1 h.1.1.1.1.1
    unfold peelEndL peelEnd
    rw [peelGo_len, List.length_replicate]
    omega
  · simp


theorem ret_pair {k : IntKind} {a a' b b' : Int} (h : a = a') (h2 : b = b') : Ending.returned (.tuple #[.int k a, .int k b]) = Ending.returned (.tuple #[.int k a', .int k b']) := by rw [h, h2]
set_option maxRecDepth 100000 in
theorem Mul64_c (w : World) (x : Int) (h0 : 0 ≤ x) (h1 : x ≤ 32) : Calls Try.prog 266 #[.int .u64 1, .int .u64 x] w fun e w' => e = .returned (.tuple #[.int .u64 0, .int .u64 x]) ∧ w = w' := by
  have hx : IntKind.u64.wrap x = x := IntWalk.u64_in _ (by omega)
  obtain ⟨n, hn, rfl⟩ : ∃ n : Nat, n < 33 ∧ x = n := ⟨x.toNat, by omega, by omega⟩
  go_enter Try.func266, Try.ntmps266
  go_wp2
  go_ret2
  refine ⟨ret_pair (a := _) (b := _) ?_ ?_, rfl⟩
  all_goals
    clear hx h0 h1
    clear w
    revert n
    decide +kernel

set_option maxRecDepth 100000 in
theorem Mul_c (w : World) (x : Int) (h0 : 0 ≤ x) (h1 : x ≤ 32) : Calls Try.prog 237 #[.int .u64 1, .int .u64 x] w fun e w' => e = .returned (.tuple #[.int .u64 0, .int .u64 x]) ∧ w = w' := by
  go_enter Try.func237, Try.ntmps237
  go_wp2_with (go_at_call 266; refine (Mul64_c _ x h0 h1).mono ?_; rintro e w' ⟨rfl, rfl⟩)
  go_ret2
  exact ⟨rfl, rfl⟩


theorem sp_rep (a z : Value) {n k c : Nat} (h : k + c ≤ n) : Go.splice (List.replicate k a ++ List.replicate (n - k) z) k (List.replicate c a) = List.replicate (k + c) a ++ List.replicate (n - (k + c)) z := by
  unfold Go.splice
  rw [List.take_append_of_le_length (by simp), List.take_of_length_le (by simp), List.drop_append]
  rw [List.drop_eq_nil_of_le (by simp)]
  simp only [List.length_replicate, List.nil_append, List.drop_replicate]
  rw [← List.append_assoc, List.replicate_append_replicate, show n - k - (k + c - k) = n - (k + c) by omega]
theorem add_at (g o j : Nat) : (⟨g, o, none⟩ : Addr).add j = ⟨g, o + j, none⟩ := by unfold Addr.add; split <;> simp_all
theorem row_own {w : World} {base g n : Nat} {e : TypeId} {l : List Value} (hb : base ≤ g) (h : w.heap[g]? = some (.cells l.toArray e (0, 0))) (hl : l.length = n) (hn : n ≤ 1048576) : w.ownsRow base e 1 (.slice (some ⟨g, 0, none⟩) n n) n l :=
  ⟨by omega, .inr ⟨g, n, l.toArray, rfl, hb, h, Nat.le_refl _, by unfold maxLen; omega, by simp [hl], by rw [List.take_of_length_le (by simp [hl])]⟩⟩
set_option maxRecDepth 100000 in
set_option maxHeartbeats 1000000 in
theorem Repeat_c (w : World) (b c n : Nat) (hn1 : 1 ≤ n) (hn : n ≤ 32) (hb : b < w.heap.size) (hc : w.cell? ⟨b, 0, none⟩ = some (.int .i64 (-1))) :
    Calls Try.prog 188 #[.slice (some ⟨b, 0, none⟩) 1 c, .int .i64 (n : Int)] w fun e w' => ∃ v, e = .returned v ∧ Ow w' w.heap.size 2 v ((List.replicate n (-1)).map (Value.int .i64)) ∧ Below w.heap.size w w' := by
  have hcv : IntKind.u64.wrap (n : Int) = (n : Int) := IntWalk.u64_in _ (by omega)
  have hcv1 : IntKind.u64.wrap 1 = 1 := IntWalk.u64_in _ (by omega)
  have hmk := fun W : World => run_mk (P := Try.prog) Try.underlying25 infoInt64 rfl (by decide) n (by omega) .i64 .i64 W
  go_enter Try.func188, Try.ntmps188
  have hal : (w.alloc (.cells (zeroRow (.int .i64 0) n) 2)).cell? ⟨b, 0, none⟩ = some (.int .i64 (-1)) := (World.cell?_alloc_old w _ _ (Nat.ne_of_lt hb)).trans hc
  have hal2 : ∀ j v, [Value.int .i64 (-1)][j]? = some v → (w.alloc (.cells (zeroRow (.int .i64 0) n) 2)).cell? ((⟨b, 0, none⟩ : Addr).add j) = some v := by
    intro j v hj
    cases j with
    | zero => cases hj; rw [add_at]; exact hal
    | succ j => cases hj
  have HAL := Lib.hid hal2
  clear hal hal2
  go_wp2_with (first
    | (go_at_call 237; refine (Mul_c _ (n : Int) (by omega) (by omega)).mono ?_; rintro e w' ⟨rfl, rfl⟩)
    | (refine wpList_copy_splice rfl (.tmp 31) (.tmp 32) 25 25 rfl 2 Try.underlying25 (by kernel_rfl) (some ⟨w.heap.size, 0, none⟩) (some ⟨b, 0, none⟩) n n 1 c rfl rfl w.heap.size 0 (List.replicate n (.int .i64 0)) 2 (heap_alloc_new w _) [.int .i64 (-1)] (Nat.min_eq_left hn1).symm (fun _ => ⟨rfl, ⟨b, 0, none⟩, rfl, HAL.out⟩) (by simp; omega) (by simp [Value.oneCell']) w.heap.size w ((Below.refl _ _).alloc (Nat.le_refl _) _) (Nat.le_refl _) ?_; intro w2 hg2 hb2))
  have hg3 : w2.heap[w.heap.size]? = some (.cells (List.replicate 1 (Value.int .i64 (-1)) ++ List.replicate (n - 1) (Value.int .i64 0)).toArray 2 (0, 0)) := by
    have h := hg2.out
    have e := sp_rep (.int .i64 (-1)) (.int .i64 0) (n := n) (k := 0) (c := 1) (by omega)
    simp only [List.replicate_zero, List.nil_append, Nat.sub_zero, Nat.zero_add] at e
    rw [← e]
    exact h
  clear hmk hcv hcv1 hg2
  go_loopw [8] (fun i wr => ∃ k : Nat, 1 ≤ k ∧ k ≤ n ∧ i = .int .i64 k ∧ wr.heap[w.heap.size]? = some (.cells (List.replicate k (Value.int .i64 (-1)) ++ List.replicate (n - k) (Value.int .i64 0)).toArray 2 (0, 0)) ∧ Below w.heap.size w wr) (fun i _ => n - (intOf i).toNat)
  case atStart => exact ⟨1, Nat.le_refl _, hn1, rfl, hg3, hb2⟩
  case round =>
    clear hg3 hb2
    obtain ⟨k, hk1, hk, rfl, hg, hb3⟩ := hrel
    have HG := Lib.hid hg
    clear hg
    by_cases hlt : k < n
    · obtain ⟨m, hm⟩ : ∃ m, Nat.min k (n - k) = m := ⟨_, rfl⟩
      have hm1 : 1 ≤ m ∧ m ≤ k ∧ k + m ≤ n := by
        have h1 : m = min k (n - k) := hm.symm
        omega
      have hsp := sp_rep (.int .i64 (-1)) (.int .i64 0) hm1.2.2
      have HSP := Lib.hid hsp
      clear hsp
      have i1 : (0 : Int) ≤ (k : Int) := by omega
      have i2 : (k : Int) ≤ (n : Int) := by omega
      have i3 : ((n : Int) - (k : Int)).toNat = n - k := by omega
      have i4 : IntKind.i64.wrap ((k : Int) + (m : Int)) = (k : Int) + (m : Int) := IntWalk.i64_in _ (by omega)
      have hnk : ¬ n = k := by omega
      have hbd : Below w.heap.size w wr.drew := ⟨hb3.os, hb3.tape, hb3.output, hb3.size, hb3.block⟩
      have hcell : ∀ j v, (List.replicate m (Value.int .i64 (-1)))[j]? = some v → wr.drew.cell? ((⟨w.heap.size, 0, none⟩ : Addr).add j) = some v := by
        intro j v hj
        have h := cell_of_row wr.drew w.heap.size (0 + j) _ 2 (0, 0) HG.out
        rw [add_at, h]
        rw [List.getElem?_replicate] at hj
        split at hj
        · rename_i hjm
          cases hj
          simp [List.getElem?_append, show j < k by omega]
        · cases hj
      have HCELL := Lib.hid hcell
      clear hcell
      have hrl : (List.replicate m (Value.int .i64 (-1))).length = m := List.length_replicate
      go_wp2_with fail
      go_region_law (refine step_copy_splice rfl (.tmp 41) (.tmp 44) 25 25 rfl 2 Try.underlying25 (by kernel_rfl) (some ⟨w.heap.size, k, none⟩) (some ⟨w.heap.size, 0, none⟩) (n - k) (n - k) k n (by simp [Act.eval, Act.put]) (by simp [Act.eval, Act.put]) w.heap.size k (List.replicate k (Value.int .i64 (-1)) ++ List.replicate (n - k) (Value.int .i64 0)) 2 HG.out (List.replicate m (.int .i64 (-1))) (by rw [hrl]; exact hm.symm) (fun _ => ⟨rfl, ⟨w.heap.size, 0, none⟩, rfl, HCELL.out⟩) (by simp; omega) (by simp [Value.oneCell']) w.heap.size w hbd (Nat.le_refl _) ?_; intro w4 hg4 hb4)
      simp only [List.getElem_toArray, List.getElem_cons_succ, List.getElem_cons_zero, Act.put, List.setIfInBounds_toArray, List.set_cons_succ, List.set_cons_zero]
      go_wp2
      go_roundw
      case rel => exact ⟨k + m, by omega, by omega, by go_num, by rw [← HSP.out]; exact hg4.out, hb4⟩
      case measure => simp [intOf]; omega
    · have : k = n := by omega
      subst this
      go_wp2
      go_ret
      refine ⟨_, rfl, ?_, hb3⟩
      have h := HG.out
      rw [Nat.sub_self, List.replicate_zero, List.append_nil] at h
      unfold Ow
      rw [List.length_map, List.length_replicate, List.map_replicate]
      exact row_own (Nat.le_refl _) h (by simp) (by omega)


set_option maxRecDepth 100000 in
theorem impl_none_c (w : World) (n : Nat) (hn1 : 1 ≤ n) (hn : n ≤ 32) :
    Calls Try.prog 101 #[.int .i64 (n : Int)] w fun e w' => ∃ v, e = .returned v ∧ Ow w' w.heap.size 2 v ((List.replicate n (-1)).map (Value.int .i64)) ∧ Below w.heap.size w w' := by
  go_enter Try.func101, Try.ntmps101
  go_wp2_with (go_at_call 188; refine (Repeat_c _ w.heap.size _ n hn1 hn (by simp) (cell_new1 _ _ _)).mono ?_; rintro e w' ⟨v, rfl, ho, hb⟩)
  go_ret
  exact ⟨_, rfl, own_base ho (by simp), ((Below.refl _ _).alloc (Nat.le_refl _) _).trans (hb.mono (by simp))⟩


theorem sol_none {b ps : List Int} {d : Int} {k : Nat} (hk : k ≤ ps.length) (h : 2 ≤ cntK b ps k) : sol b ps d = none := by
  have := cntK_mono b ps hk
  unfold sol
  rw [if_neg]
  simp
  omega
set_option maxRecDepth 100000 in
set_option maxHeartbeats 1000000 in
theorem impl_lonely_c (w : World) (B B2 : Nat) (A : Option Addr) (n cap : Nat) (ps : List Int) (hl : ps.length = n) (hn : n ≤ 1048576) (hx : Sl w B A (ps.map (Value.int .i64)))
    (A2 : Option Addr) (n2 cap2 : Nat) (b : List Int) (hb : Bl n2 b) (hy : Sl w B2 A2 (b.map (Value.int .i64))) (hin : ∀ p ∈ ps, 0 ≤ p ∧ p < n2) (d : Int) :
    Calls Try.prog 102 #[.slice A n cap, .slice A2 n2 cap2, .int .i64 d] w fun e w' => ∃ a x, e = .returned (.tuple #[.int .i64 a, .int .i64 x, .bool (sol b ps d).isSome]) ∧ (∀ p q, sol b ps d = some (p, q) → a = p ∧ x = q) ∧ w = w' := by
  go_enter Try.func102, Try.ntmps102
  go_wp2
  go_loop [2, 9, 14] (fun x a i => ∃ k : Nat, k ≤ n ∧ i = .int .i64 k ∧ cntK b ps k ≤ 1 ∧ a = .int .i64 (opnK b ps k) ∧ x = .int .i64 (xK b ps d k)) (fun _ _ i => n - (intOf i).toNat)
  case atStart => exact ⟨0, Nat.zero_le _, rfl, Nat.zero_le _, rfl, rfl⟩
  case round =>
    obtain ⟨k, hk, rfl, hc, rfl, rfl⟩ := hrel
    have hop := opnK_at (b := b) (ps := ps) (k := k) (by omega)
    by_cases hlt : k < n
    · obtain ⟨b1, off, rfl, hbb, hc1⟩ := hx.get k (by omega)
      have hj := hin (ps[k]'(by omega)) (List.getElem_mem _)
      have hpg : ps.getD k 0 = ps[k]'(by omega) := by simp [List.getD, show k < ps.length by omega]
      obtain ⟨j, hj2⟩ : ∃ j : Nat, ps[k]'(by omega) = (j : Int) := ⟨(ps[k]'(by omega)).toNat, by omega⟩
      rw [hj2] at hc1 hj hpg
      have hjb : j < b.length := by have := hb.1; omega
      obtain ⟨b2, off2, rfl, hbb2, hc2⟩ := hy.get j hjb
      have hbg : b.getD j 0 = b[j]'hjb := by simp [List.getD, hjb]
      rw [← hbg] at hc2
      have h1 : cntK b ps (k + 1) = if unk b (ps.getD k 0) then cntK b ps k + 1 else cntK b ps k := rfl
      have h2 : opnK b ps (k + 1) = if unk b (ps.getD k 0) then ps.getD k 0 else opnK b ps k := rfl
      have h3 : xK b ps d (k + 1) = if unk b (ps.getD k 0) then xK b ps d k else bits .xor .i64 (xK b ps d k) (b.getD (ps.getD k 0).toNat 0) := rfl
      have hu : unk b (ps.getD k 0) = decide (b.getD j 0 < 0) := by unfold unk; rw [hpg, Int.toNat_natCast]
      rw [hu] at h1
      rw [hu, hpg] at h2
      rw [hu, hpg, Int.toNat_natCast] at h3
      obtain ⟨v, hv⟩ : ∃ v, b.getD j 0 = v := ⟨_, rfl⟩
      rw [hv] at hc2 h1 h2 h3
      have hjn : (0 : Int) ≤ (j : Int) := by omega
      have hjl : (j : Int) < (n2 : Int) := by omega
      clear hx hy hu hpg hj2 hbg hv
      by_cases hv0 : 0 ≤ v
      · rw [decide_eq_false (show ¬ v < 0 by omega), if_neg (by decide)] at h1 h2 h3
        have H1 := Lib.hid h1
        have H2 := Lib.hid h2
        have H3 := Lib.hid h3
        clear h1 h2 h3
        go_wp2
        go_round
        case rel => exact ⟨k + 1, by omega, by go_num, by rw [H1.out]; exact hc, by rw [H2.out], by rw [H3.out]⟩
        case measure => simp [intOf]; omega
      · rw [decide_eq_true (show v < 0 by omega), if_pos rfl] at h1 h2 h3
        have H1 := Lib.hid h1
        have H2 := Lib.hid h2
        have H3 := Lib.hid h3
        obtain ⟨z, hz⟩ : ∃ z, opnK b ps k = z := ⟨_, rfl⟩
        rw [hz] at hop ⊢
        clear h1 h2 h3 hz
        by_cases hz0 : 0 ≤ z
        · have hc2' : 2 ≤ cntK b ps (k + 1) := by
            rw [H1.out]
            rcases hop with h | h <;> omega
          have hsn := sol_none (d := d) (show k + 1 ≤ ps.length by omega) hc2'
          have HSN := Lib.hid hsn
          clear hsn
          go_wp2
          go_ret3
          exact ⟨0, 0, by rw [HSN.out]; rfl, fun p q h => (by rw [HSN.out] at h; cases h), rfl⟩
        · have hc0 : cntK b ps k = 0 := by
            rcases hop with h | h
            · exact h.1
            · exact absurd (hin z h.2.1).1 hz0
          go_wp2
          go_round
          case rel => exact ⟨k + 1, by omega, by go_num, by rw [H1.out]; omega, by rw [H2.out], by rw [H3.out]⟩
          case measure => simp [intOf]; omega
    · have : k = n := by omega
      subst this
      have hs : sol b ps d = if cntK b ps k == 1 then some (opnK b ps k, xK b ps d k) else none := by unfold sol; rw [hl]
      have HS := Lib.hid hs
      obtain ⟨z, hz⟩ : ∃ z, opnK b ps k = z := ⟨_, rfl⟩
      rw [hz] at hop HS ⊢
      obtain ⟨c, hcc⟩ : ∃ c, cntK b ps k = c := ⟨_, rfl⟩
      rw [hcc] at hop hc HS
      clear hs hz hcc
      go_wp2
      go_ret3
      rcases hop with ⟨h1, h2⟩ | ⟨h1, h2, _⟩
      · exact ⟨z, xK b ps d k, by rw [HS.out, h1, h2]; rfl, fun p q h => (by rw [HS.out, h1] at h; cases h), rfl⟩
      · have h3 := (hin z h2).1
        have h4 : c = 1 := by omega
        exact ⟨z, xK b ps d k, by rw [HS.out, h4]; simp [h3], fun p q h => (by rw [HS.out, h4] at h; cases h; exact ⟨rfl, rfl⟩), rfl⟩


set_option maxRecDepth 100000 in
set_option maxHeartbeats 400000 in
theorem Index_i64_c (w : World) (B : Nat) (A : Option Addr) (n cap : Nat) (l : List Int) (hl : l.length = n) (hn : n ≤ 1048576) (hx : Sl w B A (l.map (Value.int .i64))) (x : Int) :
    Calls Try.prog 189 #[.slice A n cap, .int .i64 x] w fun e w' => ∃ r : Int, e = .returned (.int .i64 r) ∧ (0 ≤ r ↔ x ∈ l) ∧ w = w' := by
  go_enter Try.func189, Try.ntmps189
  go_wp2
  go_loop [8] (fun i => ∃ k : Nat, k ≤ n ∧ i = .int .i64 k ∧ ∀ j (hj : j < l.length), j < k → l[j] ≠ x) (fun i => n - (intOf i).toNat)
  case atStart => exact ⟨0, Nat.zero_le _, rfl, fun j _ hj => by omega⟩
  case round =>
    obtain ⟨k, hk, rfl, hp⟩ := hrel
    have HP := Lib.hid hp
    clear hp
    by_cases hlt : k < n
    · obtain ⟨b, off, rfl, hbb, hc1⟩ := hx.get k (by omega)
      have hkl : k < l.length := by omega
      obtain ⟨u, hu⟩ : ∃ u, l[k]'hkl = u := ⟨_, rfl⟩
      rw [hu] at hc1
      have HU := Lib.hid hu
      clear hu hx
      by_cases hxu : x = u
      · subst hxu
        have he : (x == x) = true := by simp
        go_wp2
        go_ret
        exact ⟨(k : Int), rfl, ⟨fun _ => by rw [← HU.out]; exact List.getElem_mem _, fun _ => by omega⟩, rfl⟩
      · have he : (x == u) = false := by simpa using hxu
        go_wp2
        go_round
        case rel =>
          refine ⟨k + 1, by omega, by go_num, ?_⟩
          intro j hj hjk
          by_cases hjk2 : j = k
          · subst hjk2
            rw [HU.out]
            exact fun h => hxu h.symm
          · exact HP.out j hj (by omega)
        case measure => simp [intOf]; omega
    · have : k = n := by omega
      subst this
      go_wp2
      go_ret
      refine ⟨-1, rfl, ⟨fun h => by omega, fun h => ?_⟩, rfl⟩
      obtain ⟨j, hj, he⟩ := List.mem_iff_getElem.1 h
      exact absurd he (HP.out j hj (by omega))
set_option maxRecDepth 100000 in
theorem Contains_i64_c (w : World) (B : Nat) (A : Option Addr) (n cap : Nat) (l : List Int) (hl : l.length = n) (hn : n ≤ 1048576) (hx : Sl w B A (l.map (Value.int .i64))) (x : Int) :
    Calls Try.prog 103 #[.slice A n cap, .int .i64 x] w fun e w' => e = .returned (.bool (decide (x ∈ l))) ∧ w = w' := by
  go_enter Try.func103, Try.ntmps103
  go_wp2_with fail
  refine (Index_i64_c _ B A n cap l hl hn hx x).mono ?_
  rintro e w' ⟨r, rfl, hr, rfl⟩
  have HR := Lib.hid hr
  clear hr
  go_wp2
  go_ret
  exact ⟨ret_bool (by rw [decide_eq_decide]; exact HR.out), rfl⟩


/-- append of one element, just laid; only the row's block is turned -/
theorem appG {P : Program} {t e : TypeId} (ht : P.underlying t = some (.slice e)) {z : Value} {bytes : Nat} (hi : (P.info? e).map (fun i => (i.zero, i.size, i.bytes)) = some (some z, 1, bytes)) (hz : z.cells.size = 1) (hby : bytes ≤ 64)
    {w : World} {ops : Array Oper} {rest : List Oper} {o : Oper} {a : Act} {Q : Exit → Act → World → Prop} (hgd : o.guard = none) (s x : Operand)
    (ho : o.op = .call { callee := .builtin .append, args := #[s, x], argTypes := #[t, t] }) (base : Nat) (v : Value) (xs : List Value) (hs : a.eval s = v) (hown : Ow w base e v xs)
    (g c : Nat) (u : Value) (hx : a.eval x = .slice (some ⟨g, 0, none⟩) 1 c) (hc : w.cell? ⟨g, 0, none⟩ = some u) (h1 : u.oneCell' = true)
    (hlen : xs.length + 1 ≤ 1099511627776) (hbase : base ≤ w.heap.size)
    (h : ∀ v' w', Ow w' base e v' (xs ++ [u]) → w.grownBy w' v.ownBlock → wpList P ops Q rest (a.put o.dst v') w') : wpList P ops Q (o :: rest) a w := by
  obtain ⟨i, hi1, hi2, hi3, hi4⟩ := info_ok hi
  refine wpList_append_own (P := P) w hgd s x t ho base e i z 1 bytes ht hi1 hi2 hi3 hi4 hz (by decide) v xs.length xs hs hown ⟨g, 0, none⟩ 1 c [u] hx (by simp) ?_ (by simpa using h1) ?_ ?_ hbase ?_
  · intro j u' hu
    rw [add_at]
    cases j with
    | zero => cases hu; exact hc
    | succ j => cases hu
  · unfold maxLen; omega
  · have h2 : (xs.length + 1) * bytes ≤ 1099511627776 * 64 := Nat.mul_le_mul hlen hby
    omega
  · intro v' w' h2 h3 _
    refine h v' w' ?_ h3
    unfold Ow
    rw [List.length_append, List.length_singleton]
    exact h2
/-- a row stays where a row of another type is written -/
theorem inner_kept {w w' : World} {base base2 : Nat} {e e2 : TypeId} {v u : Value} {n m : Nat} {xs zs : List Value} (h : w.ownsRow base e 1 v n xs) (h2 : w.ownsRow base2 e2 1 u m zs) (hne : e ≠ e2) (hg : w.grownBy w' u.ownBlock) : w'.ownsRow base e 1 v n xs :=
  h.kept hg (by
    cases hv : v.ownBlock with
    | none => exact .inl rfl
    | some g => exact .inr fun he => own_types h h2 hne g hv he.symm)
def negV : Value → Bool
  | .int _ x => decide (x < 0)
  | _ => false
/-- how many of a row's first numbers are below 0 -/
def negs (w : World) (g n : Nat) : Nat := match w.heap[g]? with
  | some (.cells cur _ _) => (cur.toList.take n).countP negV
  | _ => 0
theorem negs_own {w : World} {base g n cap : Nat} {b : List Int} (h : w.ownsRow base 2 1 (.slice (some ⟨g, 0, none⟩) n cap) n (b.map (Value.int .i64))) : negs w g n = unkn b := by
  rcases h.2 with ⟨he, _⟩ | ⟨g', c', cur, he, _, hg, _, _, _, ht⟩
  · cases he
  · injection he with he
    injection he with he
    injection he with he
    subst he
    unfold negs unkn
    rw [hg]
    rw [Nat.mul_one] at ht
    simp only [ht, List.countP_map]
    rfl
def tb : Value → Nat
  | .bool true => 1
  | _ => 0
theorem pk_no {n : Int} {ss ds : List Int} (h : peelOkB n ss ds = false) : peelOk n ss ds = false ∧ peelL n ss ds = [] := by
  have h1 : peelOk n ss ds = false := by unfold peelOk; rw [h]; rfl
  exact ⟨h1, by unfold peelL; rw [h1]; rfl⟩
theorem pk_bad {n : Int} {ss ds R : List Int} (hR : peelEndL n ss ds = R) {x : Int} (hx : x ∈ R) (h : x < 0) : peelOk n ss ds = false ∧ peelL n ss ds = [] := by
  have h1 : peelOk n ss ds = false := by
    unfold peelOk
    rw [hR]
    have : (R.all fun x => decide (0 ≤ x)) = false := by
      rw [← Bool.not_eq_true, List.all_eq_true]
      intro hh
      have := hh x hx
      simp at this
      omega
    rw [this, Bool.and_false]
  exact ⟨h1, by unfold peelL; rw [h1]; rfl⟩
theorem pk_good {n : Int} {ss ds R : List Int} (h : peelOkB n ss ds = true) (hR : peelEndL n ss ds = R) (hx : ∀ x ∈ R, 0 ≤ x) : peelOk n ss ds = true ∧ peelL n ss ds = R := by
  have h1 : peelOk n ss ds = true := by
    unfold peelOk
    rw [h, hR, Bool.true_and, List.all_eq_true]
    intro x h
    simpa using hx x h
  exact ⟨h1, by unfold peelL; rw [h1, hR]; rfl⟩

set_option maxRecDepth 100000 in
set_option maxHeartbeats 4000000 in
theorem impl_PeelDrops_c (w : World) (n : Int) (A : Option Addr) (n1 cap : Nat) (ss : List Int) (hl : ss.length = n1) (hn : n1 ≤ 1048576) (hx : Sl w w.heap.size A (ss.map (Value.int .i64)))
    (A2 : Option Addr) (n2 cap2 : Nat) (ds : List Int) (hl2 : ds.length = n2) (hn2 : n2 ≤ 1048576) (hy : Sl w w.heap.size A2 (ds.map (Value.int .i64))) :
    Calls Try.prog 22 #[.int .i64 n, .slice A n1 cap, .slice A2 n2 cap2] w fun e w' => ∃ v, e = .returned (.tuple #[v, .bool (peelOk n ss ds)]) ∧ Ow w' w.heap.size 2 v ((peelL n ss ds).map (Value.int .i64)) ∧ Below w.heap.size w w' := by
  cases h1 : inB n 1 32
  · obtain ⟨e1, e2⟩ := pk_no (n := n) (ss := ss) (ds := ds) (by unfold peelOkB; rw [h1]; rfl)
    rw [e1, e2]
    have H1 := Lib.hid h1
    clear h1 e1 e2
    go_enter Try.func22, Try.ntmps22
    go_wp2_with (go_at_call 93; refine (impl_within_c _ _ _ _).mono ?_; rintro e w' ⟨rfl, rfl⟩; rw [H1.out])
    go_ret2
    exact ⟨_, rfl, World.ownsRow_nil _ _ _ _, Below.refl _ _⟩
  · have H1 := Lib.hid h1
    have hnb := inB_true.1 h1
    by_cases hne : n1 = n2
    · subst hne
      have heq : ((n1 : Int) == (n1 : Int)) = true := by simp
      by_cases h64 : n1 ≤ 64
      · have hd64 : decide ((64 : Int) < (n1 : Int)) = false := by simp; omega
        cases h4 : ds.all (fun x => inB x 0 255)
        · obtain ⟨e1, e2⟩ := pk_no (n := n) (ss := ss) (ds := ds) (by unfold peelOkB; rw [h4]; simp)
          rw [e1, e2]
          have H4 := Lib.hid h4
          clear h1 h4 e1 e2
          go_enter Try.func22, Try.ntmps22
          go_wp2_with (first | (go_at_call 93; refine (impl_within_c _ _ _ _).mono ?_; rintro e w' ⟨rfl, rfl⟩; rw [H1.out]) | (go_at_call 99; refine (impl_areBytes_c _ _ A2 n1 cap2 ds hl2 (by omega) hy).mono ?_; rintro e w' ⟨rfl, q, rfl⟩; rw [H4.out]))
          go_ret2
          exact ⟨_, rfl, World.ownsRow_nil _ _ _ _, below_of_drewN _ _ _⟩
        · have H4 := Lib.hid h4
          obtain ⟨N, rfl⟩ : ∃ N : Nat, n = (N : Int) := ⟨n.toNat, by omega⟩
          have hokb : ss.all (fun s => inB s 0 4294967295) = true → peelOkB (N : Int) ss ds = true := fun h => by
            unfold peelOkB; rw [h1, h4, h, hl, hl2]; simpa using h64
          have hnokb : ∀ k (hk : k < ss.length), inB ss[k] 0 4294967295 = false → peelOkB (N : Int) ss ds = false := fun k hk h => by
            unfold peelOkB
            rw [all_not (fun s => inB s 0 4294967295) ss k hk h, Bool.and_false]
          have HOK := Lib.hid hokb
          have HNO := Lib.hid hnokb
          clear h1 h4 hokb hnokb
          go_enter Try.func22, Try.ntmps22
          go_wp2_with (first | (go_at_call 93; refine (impl_within_c _ _ _ _).mono ?_; rintro e w' ⟨rfl, rfl⟩; rw [H1.out]) | (go_at_call 99; refine (impl_areBytes_c _ _ A2 n1 cap2 ds hl2 (by omega) hy).mono ?_; rintro e w' ⟨rfl, q, rfl⟩; rw [H4.out]))
          obtain ⟨w0, ew⟩ : ∃ x : World, x = w.drewN q := ⟨_, rfl⟩
          have hB0 : Below w.heap.size w w0 := by rw [ew]; exact below_of_drewN _ _ _
          have hz0 : w0.heap.size = w.heap.size := by rw [ew]; rfl
          have hx0 : Sl w0 w.heap.size A (ss.map (Value.int .i64)) := by rw [ew]; exact hx.drewN q
          have hy0 : Sl w0 w.heap.size A2 (ds.map (Value.int .i64)) := by rw [ew]; exact hy.drewN q
          rw [← ew]
          have hoe := own_empty w0 w.heap.size 25 (by rw [hz0]; exact Nat.le_refl _)
          have hBe : Below w.heap.size w (w0.alloc (.cells #[] 25)) := hB0.alloc (by omega) _
          have HZ0 := Lib.hid hz0
          have HB0 := Lib.hid hB0
          clear ew hx hy
          go_loopw [8, 43] (fun v i wr => ∃ (k : Nat) (ys : List RowH), k ≤ n1 ∧ i = .int .i64 k ∧ dat ys = (ss.take k).map (fun s => dropL N s) ∧ (∀ y ∈ ys, wr.ownsRow w.heap.size 2 1 (rowV y) y.2.2.length (y.2.2.map (Value.int .i64))) ∧ (ss.take k).all (fun s => inB s 0 4294967295) = true ∧ Ow wr w.heap.size 25 v (ys.map rowV) ∧ Below w.heap.size w wr) (fun _ i _ => n1 - (intOf i).toNat)
          case atStart => exact ⟨0, [], Nat.zero_le _, rfl, rfl, by simp, rfl, (by have h := hoe; rw [hz0] at h; exact h), hBe⟩
          case round =>
            clear hoe hBe hB0 hz0
            obtain ⟨k, ys, hk, rfl, hd, hin, hsa, ho, hb⟩ := hrel
            have HD := Lib.hid hd
            have HI := Lib.hid hin
            have HSA := Lib.hid hsa
            have hyl : ys.length = k := by rw [← dat_len, hd, List.length_map, List.length_take]; omega
            have hzr := hb.size
            clear hd hin hsa
            by_cases hlt : k < n1
            · have hx1 := hx0
              obtain ⟨b1, off, rfl, hbb, hc1⟩ := (hx0.below (show Below w.heap.size w0 wr from ⟨hb.os.trans HB0.out.os.symm, hb.tape.trans HB0.out.tape.symm, hb.output.trans HB0.out.output.symm, by rw [HZ0.out]; exact hzr, fun i hi => (hb.block i hi).trans (HB0.out.block i hi).symm⟩)).get k (by omega)
              obtain ⟨s, hs⟩ : ∃ s, ss[k]'(by omega) = s := ⟨_, rfl⟩
              have hno := HNO.out k (by omega)
              have htk : ss.take (k + 1) = ss.take k ++ [s] := by rw [List.take_succ_eq_append_getElem (by omega), hs]
              rw [hs] at hc1 hno
              have HTK := Lib.hid htk
              clear htk hs hx1
              cases hsd : inB s 0 4294967295
              · obtain ⟨e1, e2⟩ := pk_no (hno hsd)
                have E := Lib.hid (And.intro e1 e2)
                have hdk : dropOk (N : Int) s = false := by unfold dropOk; rw [hsd, Bool.and_false]
                have HDK := Lib.hid hdk
                clear e1 e2 hno hsd hdk
                go_wp2_with fail
                refine (impl_DropPlaces_c wr (N : Int) s).mono ?_
                rintro e w2 ⟨v2, rfl, ho2, hb2⟩
                rw [HDK.out]
                go_wp2
                go_ret2
                exact ⟨.slice none 0 0, by rw [E.out.1]; rfl, by rw [E.out.2]; exact World.ownsRow_nil _ _ _ _, hb.trans (hb2.mono hzr)⟩
              · have hdk : dropOk (N : Int) s = true := by unfold dropOk; rw [H1.out, hsd]; rfl
                have hpl : dropPlacesL (N : Int) s = dropL N s := by unfold dropPlacesL; rw [hdk]; rfl
                have HDK := Lib.hid hdk
                have HPL := Lib.hid hpl
                have HSD := Lib.hid hsd
                clear hdk hpl hno hsd
                go_wp2_with fail
                refine (impl_DropPlaces_c wr (N : Int) s).mono ?_
                rintro e w2 ⟨v2, rfl, ho2, hb2⟩
                rw [HDK.out]
                rw [HPL.out] at ho2
                obtain ⟨S, q2, rfl, hp2⟩ := ho2.opn
                have hz2 := hb2.size
                have hoo := own_below ho hb2 (Nat.le_refl _)
                have hlen : (ys.map rowV).length + 1 ≤ 1099511627776 := by rw [List.length_map]; omega
                clear ho2
                go_wp2_with (at_builtin; refine appG Try.underlying93 infoI64s rfl (by decide) rfl _ _ rfl _ _ _ rfl (hoo.alloc _) _ _ _ rfl (cell_new1 _ _ _) rfl hlen (by simp; omega) ?_; intro v3 w3 ho3 hg3)
                have hba := (Below.refl w2.heap.size w2).alloc (Nat.le_refl _) (Obj.cells #[.slice S (dropL N s).length q2] 25)
                have hooa := own_below hoo hba (Nat.le_refl _)
                have hin3 : ∀ y ∈ ys ++ [(S, q2, dropL N s)], w3.ownsRow w.heap.size 2 1 (rowV y) y.2.2.length (y.2.2.map (Value.int .i64)) := by
                  intro y hy
                  rw [List.mem_append] at hy
                  rcases hy with hy | hy
                  · exact inner_kept (own_below (own_below (HI.out y hy) hb2 (Nat.le_refl _)) hba (Nat.le_refl _)) hooa (by decide) hg3
                  · obtain rfl : y = (S, q2, dropL N s) := by simpa using hy
                    exact own_base (inner_kept (own_below hp2 hba (Nat.le_refl _)) hooa (by decide) hg3) hzr
                have hb3 : Below w.heap.size w w3 := ((hb.trans (hb2.mono hzr)).trans (hba.mono (by omega))).grown hg3 (by simp; omega) (fun k' hk' => (hooa.lt k' hk').1)
                have HI3 := Lib.hid hin3
                clear hin3 hooa hba hg3 hp2 hoo
                go_wp2
                go_roundw
                case rel =>
                  refine ⟨k + 1, ys ++ [(S, q2, dropL N s)], by omega, by go_num, ?_, HI3.out, ?_, ?_, hb3⟩
                  · rw [HTK.out, List.map_append, ← HD.out]
                    unfold dat
                    rw [List.map_append]
                    rfl
                  · rw [HTK.out, List.all_append, HSA.out]
                    simp [HSD.out]
                  · rw [List.map_append]
                    exact ho3
                case measure => simp [intOf]; omega
            · have : k = n1 := by omega
              subst this
              have hP : dat ys = ss.map (fun s => dropL N s) := by rw [HD.out, take_all hl]
              have hokb := HOK.out (by have h := HSA.out; rwa [take_all hl] at h)
              obtain ⟨R, hR⟩ : ∃ R, peelEndL (N : Int) ss ds = R := ⟨_, rfl⟩
              have hR0 : peelEnd (dat ys) ds (List.replicate N (-1)) = R := by rw [hP, ← hR]; rfl
              have hgood := fun h => pk_good hokb hR h
              have hbad := fun (x : Int) (hx : x ∈ R) (h : x < 0) => pk_bad hR hx h
              have hdm : ∀ l ∈ dat ys, l.length ≤ N ∧ ∀ p ∈ l, 0 ≤ p ∧ p < N := by
                intro l hl'
                rw [hP] at hl'
                obtain ⟨s, _, rfl⟩ := List.mem_map.1 hl'
                exact ⟨by have := dropL_len (N : Int) s; simpa using this, dropL_mem (N : Int) s (by omega)⟩
              have hdb : ∀ d ∈ ds, 0 ≤ d ∧ d ≤ 255 := fun d hd => inB_true.1 (List.all_eq_true.1 H4.out d hd)
              have HGOOD := Lib.hid hgood
              have HBAD := Lib.hid hbad
              have HDM := Lib.hid hdm
              have HDB := Lib.hid hdb
              have HR0 := Lib.hid hR0
              obtain ⟨A5, c5, rfl, hp5⟩ := ho.opn
              rw [hyl] at hp5 ⊢
              have hyw : Sl wr w.heap.size A2 (ds.map (Value.int .i64)) := hy0.below ⟨hb.os.trans HB0.out.os.symm, hb.tape.trans HB0.out.tape.symm, hb.output.trans HB0.out.output.symm, by rw [HZ0.out]; exact hzr, fun i hi => (hb.block i hi).trans (HB0.out.block i hi).symm⟩
              clear hP hokb hR hR0 hgood hbad hdm hdb ho hx0 hy0
              go_wp2_with fail
              refine (impl_none_c wr N (by omega) (by omega)).mono ?_
              rintro e w5 ⟨v5, rfl, ho5, hb5⟩
              obtain ⟨A6, c6, rfl, hp6⟩ := ho5.opn
              rw [List.length_replicate] at hp6 ⊢
              obtain ⟨g, q6, hv6, hbg, hgs⟩ := hp6.form (by omega)
              injection hv6 with hv1 hv2 hv4
              subst hv1
              clear hv2 hv4 ho5
              obtain ⟨wP, ewP⟩ : ∃ x : World, x = wr := ⟨_, rfl⟩
              rw [← ewP] at hb hzr hp5 hyw hb5 hp6 hbg HI
              clear ewP
              have hB5 : Below wP.heap.size wP w5 := hb5
              have hBw : Below w.heap.size w wP := hb
              have hbl0 : Bl N (List.replicate N (-1)) := ⟨List.length_replicate, fun x hx => by have := List.eq_of_mem_replicate hx; omega⟩
              go_wp2
              go_loopw [14] (fun f wq => ∃ b : List Int, Bl N b ∧ ((f = .bool true ∧ peelEnd (dat ys) ds b = R) ∨ (f = .bool false ∧ b = R)) ∧ wq.ownsRow wP.heap.size 2 1 (.slice (some ⟨g, 0, none⟩) N c6) N (b.map (Value.int .i64)) ∧ Below wP.heap.size wP wq) (fun f wq => negs wq g N + tb f)
              case atStart => exact ⟨_, hbl0, .inl ⟨rfl, HR0.out⟩, hp6, hB5⟩
              case round =>
                clear hbl0 hp6 hB5 hb5
                obtain ⟨b, hbl, hf, hob, hbq⟩ := hrel
                have hp5q := own_below hp5 hbq (Nat.le_refl _)
                have hyq := hyw.below (hbq.mono hzr)
                rcases hf with ⟨rfl, hend⟩ | ⟨rfl, rfl⟩
                · have HEND := Lib.hid hend
                  clear hend
                  go_wp2
                  go_loop [14, 65] (fun f i => ∃ k5 : Nat, k5 ≤ k ∧ i = .int .i64 k5 ∧ peelK (dat ys) ds b k5 = none ∧ f = .bool false) (fun _ i => k - (intOf i).toNat)
                  case atStart => exact ⟨0, Nat.zero_le _, rfl, rfl, rfl⟩
                  case round =>
                    obtain ⟨k5, hk5, rfl, hpk, rfl⟩ := hrel
                    have HPK := Lib.hid hpk
                    clear hpk
                    by_cases hlt : k5 < k
                    · obtain ⟨b1, off, rfl, hbb, hc1⟩ := hyq.get k5 (by omega)
                      have hkd : k5 < ds.length := by omega
                      have hky : k5 < ys.length := by omega
                      have hdd := HDB.out _ (List.getElem_mem hkd)
                      have hdg : ds.getD k5 0 = ds[k5]'hkd := by simp [List.getD, hkd]
                      obtain ⟨d, hd1⟩ : ∃ d, ds[k5]'hkd = d := ⟨_, rfl⟩
                      rw [hd1] at hc1 hdd hdg
                      obtain ⟨b3, off3, hA5, hbb3, hc3⟩ := (sl_of_own hp5q).get k5 hky
                      subst hA5
                      have hm := List.getElem_mem hky
                      have hiy := HI.out _ hm
                      have hmd : (ys[k5]'hky).2.2 ∈ dat ys := List.mem_map_of_mem hm
                      have hdl := HDM.out _ hmd
                      have hpg : (dat ys).getD k5 [] = (ys[k5]'hky).2.2 := by
                        rw [show (dat ys).getD k5 [] = (dat ys)[k5]'(by rw [dat_len]; exact hky) from by simp [List.getD, dat_len, hky]]
                        exact dat_get hky
                      have hsl := sl_of_own (own_below hiy hbq (Nat.le_refl _))
                      obtain ⟨⟨a, c, l⟩, hxx⟩ : ∃ x, ys[k5]'hky = x := ⟨_, rfl⟩
                      rw [hxx] at hc3 hdl hpg hsl
                      simp only [rowV] at hc3 hdl hpg hsl
                      have hlon := impl_lonely_c wr _ wr.heap.size a l.length c l rfl (by omega) hsl (some ⟨g, 0, none⟩) N c6 b hbl (sl_of_own hob) hdl.2 d
                      have hps := @peelK_none (dat ys) ds b k5 HPK.out
                      have hpo := fun o => @peelK_some (dat ys) ds b k5 o HPK.out
                      rw [hpg, hdg] at hps hpo
                      have hop := opnK_at (b := b) (ps := l) (k := l.length) (Nat.le_refl _)
                      have hxb := xK_bd (ps := l) hbl hdd.1 hdd.2 l.length
                      have HLON := Lib.hid hlon
                      clear hlon hiy hm hmd hpg hdg hd1 hxx hsl
                      cases hsol : sol b l d with
                      | none =>
                        have HPS := Lib.hid (hps hsol)
                        have hl2 := HLON.out
                        rw [hsol] at hl2
                        have HL2 := Lib.hid hl2
                        clear hps hpo hl2 hsol
                        go_wp2_with (go_at_call 102; refine HL2.out.mono ?_; rintro e w' ⟨p', x', rfl, _, rfl⟩)
                        go_round
                        case rel => exact ⟨k5 + 1, by omega, by go_num, HPS.out, rfl⟩
                        case measure => simp [intOf]; omega
                      | some o =>
                        obtain ⟨p, q⟩ := o
                        have hpo2 := hpo (p, q) hsol hkd
                        have hl2 := HLON.out
                        rw [hsol] at hl2
                        have hpq : p = opnK b l l.length ∧ q = xK b l d l.length ∧ cntK b l l.length = 1 := by
                          unfold sol at hsol
                          split at hsol
                          · rename_i h
                            cases hsol
                            exact ⟨rfl, rfl, by simpa using h⟩
                          · cases hsol
                        obtain ⟨hp1, hq1, hcn⟩ := hpq
                        rw [← hp1] at hop
                        rw [← hq1] at hxb
                        have hpm : p ∈ l ∧ unk b p = true := by
                          rcases hop with h | h
                          · omega
                          · exact h.2
                        have hpr := hdl.2 p hpm.1
                        obtain ⟨j, rfl⟩ : ∃ j : Nat, p = (j : Int) := ⟨p.toNat, by omega⟩
                        have hjb : j < b.length := by have := hbl.1; omega
                        have hneg : b[j]'hjb < 0 := by
                          have h := hpm.2
                          unfold unk at h
                          rw [Int.toNat_natCast, show b.getD j 0 = b[j]'hjb from by simp [List.getD, hjb]] at h
                          simpa using h
                        have hus := unkn_set hjb hneg hxb.1
                        have hend2 : peelEnd (dat ys) ds (b.set j q) = R := by
                          have h := peelEnd_some hpo2 (by simpa using hus)
                          rw [HEND.out] at h
                          simpa using h.symm
                        have hcj := own_get hob hjb
                        have hs := hob.stored j (.int .i64 q)
                        have hfz := hob.frozenAt j
                        have hn0 := negs_own hob
                        have hjn : (0 : Int) ≤ (j : Int) := by omega
                        have hjl : (j : Int) < (N : Int) := by omega
                        have hs1 : (wr.setCell ⟨g, j, none⟩ (.int .i64 q)).ownsRow wP.heap.size 2 1 (.slice (some ⟨g, 0, none⟩) N c6) N ((b.set j q).map (Value.int .i64)) := by
                          rw [List.map_set]
                          exact hs.1
                        have hn1' := negs_own hs1
                        have HS := Lib.hid hs1
                        have HE2 := Lib.hid hend2
                        have HN := Lib.hid (And.intro hn0 hn1')
                        have HL2 := Lib.hid hl2
                        have HUS := Lib.hid hus
                        clear hps hpo hl2 hsol hpo2 hop hpm hs hs1 hend2 hn0 hn1' hus hneg hp1 hq1
                        go_wp2_with (go_at_call 102; refine HL2.out.mono ?_; rintro e w' ⟨p', x', rfl, he', rfl⟩; obtain ⟨rfl, rfl⟩ := he' _ _ rfl)
                        go_roundw
                        case rel => exact ⟨b.set j x', hbl.set hxb.1 hxb.2 j, .inl ⟨rfl, HE2.out⟩, HS.out, hbq.setCell (p := ⟨g, j, none⟩) hbg _⟩
                        case measure =>
                          rw [HN.out.1, HN.out.2]
                          have := HUS.out
                          simp [tb]
                          omega
                    · have : k5 = k := by omega
                      subst this
                      go_wp2
                      go_roundw
                      case rel => exact ⟨b, hbl, .inr ⟨rfl, by rw [← HEND.out, peelEnd_none (by unfold peel1; rw [hl2]; exact HPK.out)]⟩, hob, hbq⟩
                      case measure => simp [tb]
                · have hBF : Below w.heap.size w wr := hBw.trans (hbq.mono hzr)
                  by_cases hm : (-1 : Int) ∈ b
                  · have E := Lib.hid (HBAD.out (-1) hm (by decide))
                    have HM := Lib.hid (decide_eq_true hm)
                    clear hm
                    go_wp2_with (go_at_call 103; refine (Contains_i64_c wr _ _ N c6 b hbl.1 (by omega) (sl_of_own hob) (-1)).mono ?_; rintro e w' ⟨rfl, rfl⟩; rw [HM.out])
                    go_ret2
                    exact ⟨.slice none 0 0, by rw [E.out.1]; rfl, by rw [E.out.2]; exact World.ownsRow_nil _ _ _ _, hBF⟩
                  · have E := Lib.hid (HGOOD.out (fun x hx => by
                      have h1 := hbl.2 x hx
                      by_cases h : x = -1
                      · subst h; exact absurd hx hm
                      · omega))
                    have HM := Lib.hid (decide_eq_false hm)
                    clear hm
                    go_wp2_with (go_at_call 103; refine (Contains_i64_c wr _ _ N c6 b hbl.1 (by omega) (sl_of_own hob) (-1)).mono ?_; rintro e w' ⟨rfl, rfl⟩; rw [HM.out])
                    go_ret2
                    refine ⟨.slice (some ⟨g, 0, none⟩) N c6, by rw [E.out.1]; rfl, ?_, hBF⟩
                    unfold Ow
                    rw [E.out.2, List.length_map]
                    show World.ownsRow _ _ _ _ _ b.length _
                    rw [hbl.1]
                    exact own_base hob hzr
      · have hd64 : decide ((64 : Int) < (n1 : Int)) = true := by simp; omega
        obtain ⟨e1, e2⟩ := pk_no (n := n) (ss := ss) (ds := ds) (by unfold peelOkB; rw [hl2, decide_eq_false h64]; simp)
        rw [e1, e2]
        clear h1 e1 e2
        go_enter Try.func22, Try.ntmps22
        go_wp2_with (go_at_call 93; refine (impl_within_c _ _ _ _).mono ?_; rintro e w' ⟨rfl, rfl⟩; rw [H1.out])
        go_ret2
        exact ⟨_, rfl, World.ownsRow_nil _ _ _ _, Below.refl _ _⟩
    · have heq : ((n1 : Int) == (n2 : Int)) = false := by simp; omega
      have hnn : (n1 == n2) = false := by simpa using hne
      obtain ⟨e1, e2⟩ := pk_no (n := n) (ss := ss) (ds := ds) (by unfold peelOkB; rw [hl, hl2, hnn]; simp)
      rw [e1, e2]
      clear h1 e1 e2
      go_enter Try.func22, Try.ntmps22
      go_wp2_with (go_at_call 93; refine (impl_within_c _ _ _ _).mono ?_; rintro e w' ⟨rfl, rfl⟩; rw [H1.out])
      go_ret2
      exact ⟨_, rfl, World.ownsRow_nil _ _ _ _, Below.refl _ _⟩


def knL (b : List Int) : List Bool := b.map fun x => decide (0 ≤ x)
def ouL (b : List Int) : List Int := b.map fun x => if x < 0 then 0 else x
theorem ouL_all {b : List Int} (h : ∀ x ∈ b, 0 ≤ x) : ouL b = b := by
  unfold ouL
  rw [List.map_congr_left (g := fun x => x) (fun x hx => by rw [if_neg (by have := h x hx; omega)])]
  simp
theorem own_set_other {w : World} {base g n c : Nat} {e : TypeId} {xs : List Value} (h : w.ownsRow base e 1 (.slice (some ⟨g, 0, none⟩) n c) n xs) {p : Addr} (hp : p.block ≠ g) (u : Value) : (w.setCell p u).ownsRow base e 1 (.slice (some ⟨g, 0, none⟩) n c) n xs := by
  obtain ⟨h1, h2⟩ := h
  refine ⟨h1, ?_⟩
  rcases h2 with h2 | ⟨g', cap, cur, hv, hg, hh, r⟩
  · exact .inl h2
  · injection hv with hv hn hc
    injection hv with hv
    injection hv with hv
    subst hv
    exact .inr ⟨g, cap, cur, by rw [hc], hg, by rw [Below.heap_setCell _ _ _ _ (by omega)]; exact hh, r⟩

set_option maxRecDepth 100000 in
set_option maxHeartbeats 4000000 in
theorem spec_PeelDrops_c (w : World) (n : Int) (A : Option Addr) (n1 cap : Nat) (ss : List Int) (hl : ss.length = n1) (hn : n1 ≤ 1048576) (hx : Sl w w.heap.size A (ss.map (Value.int .i64)))
    (A2 : Option Addr) (n2 cap2 : Nat) (ds : List Int) (hl2 : ds.length = n2) (hn2 : n2 ≤ 1048576) (hy : Sl w w.heap.size A2 (ds.map (Value.int .i64))) :
    Calls Try.prog 21 #[.int .i64 n, .slice A n1 cap, .slice A2 n2 cap2] w fun e w' => ∃ v, e = .returned (.tuple #[v, .bool (peelOk n ss ds)]) ∧ Ow w' w.heap.size 2 v ((peelL n ss ds).map (Value.int .i64)) ∧ Below w.heap.size w w' := by
  cases h1 : inB n 1 32
  · obtain ⟨e1, e2⟩ := pk_no (n := n) (ss := ss) (ds := ds) (by unfold peelOkB; rw [h1]; rfl)
    rw [e1, e2]
    have H1 := Lib.hid h1
    clear h1 e1 e2
    go_enter Try.func21, Try.ntmps21
    go_wp2_with (go_at_call 96; refine (spec_l00In_c _ _ _ _).mono ?_; rintro e w' ⟨rfl, rfl⟩; rw [H1.out])
    go_ret2
    exact ⟨_, rfl, World.ownsRow_nil _ _ _ _, Below.refl _ _⟩
  · have H1 := Lib.hid h1
    have hnb := inB_true.1 h1
    cases hbk : ((ds.all fun x => inB x 0 255) && inB n2 0 64)
    · obtain ⟨e1, e2⟩ := pk_no (n := n) (ss := ss) (ds := ds) (by
        unfold peelOkB
        rw [hl2]
        cases h4 : ds.all (fun x => inB x 0 255)
        · simp
        · rw [h4, Bool.true_and] at hbk
          rw [decide_eq_false (show ¬ n2 ≤ 64 by rcases inB_false.1 hbk with h | h <;> omega)]
          simp)
      rw [e1, e2]
      have HBK := Lib.hid hbk
      clear h1 hbk e1 e2
      go_enter Try.func21, Try.ntmps21
      go_wp2_with (first | (go_at_call 96; refine (spec_l00In_c _ _ _ _).mono ?_; rintro e w' ⟨rfl, rfl⟩; rw [H1.out]) | (go_at_call 100; refine (spec_l07Blocks_c _ _ A2 n2 cap2 ds hl2 (by omega) hy 0 64).mono ?_; rintro e w' ⟨rfl, q, rfl⟩; rw [HBK.out]))
      go_ret2
      exact ⟨_, rfl, World.ownsRow_nil _ _ _ _, below_of_drewN _ _ _⟩
    · have HBK := Lib.hid hbk
      rw [Bool.and_eq_true] at hbk
      obtain ⟨h4, h64'⟩ := hbk
      have h64 := inB_true.1 h64'
      by_cases hne : n1 = n2
      · subst hne
        have heq : ((n1 : Int) == (n1 : Int)) = true := by simp
        · have H4 := Lib.hid h4
          obtain ⟨N, rfl⟩ : ∃ N : Nat, n = (N : Int) := ⟨n.toNat, by omega⟩
          have hokb : ss.all (fun s => inB s 0 4294967295) = true → peelOkB (N : Int) ss ds = true := fun h => by
            unfold peelOkB; rw [h1, h4, h, hl, hl2]; simp; omega
          have hnokb : ∀ k (hk : k < ss.length), inB ss[k] 0 4294967295 = false → peelOkB (N : Int) ss ds = false := fun k hk h => by
            unfold peelOkB
            rw [all_not (fun s => inB s 0 4294967295) ss k hk h, Bool.and_false]
          have HOK := Lib.hid hokb
          have HNO := Lib.hid hnokb
          clear h1 h4 hokb hnokb
          go_enter Try.func21, Try.ntmps21
          go_wp2_with (first | (go_at_call 96; refine (spec_l00In_c _ _ _ _).mono ?_; rintro e w' ⟨rfl, rfl⟩; rw [H1.out]) | (go_at_call 100; refine (spec_l07Blocks_c _ _ A2 n1 cap2 ds hl2 (by omega) hy 0 64).mono ?_; rintro e w' ⟨rfl, q, rfl⟩; rw [HBK.out]))
          obtain ⟨w0, ew⟩ : ∃ x : World, x = w.drewN q := ⟨_, rfl⟩
          have hB0 : Below w.heap.size w w0 := by rw [ew]; exact below_of_drewN _ _ _
          have hz0 : w0.heap.size = w.heap.size := by rw [ew]; rfl
          have hx0 : Sl w0 w.heap.size A (ss.map (Value.int .i64)) := by rw [ew]; exact hx.drewN q
          have hy0 : Sl w0 w.heap.size A2 (ds.map (Value.int .i64)) := by rw [ew]; exact hy.drewN q
          rw [← ew]
          have hoe := own_empty w0 w.heap.size 25 (by rw [hz0]; exact Nat.le_refl _)
          have hBe : Below w.heap.size w (w0.alloc (.cells #[] 25)) := hB0.alloc (by omega) _
          have HZ0 := Lib.hid hz0
          have HB0 := Lib.hid hB0
          clear ew hx hy
          go_loopw [8, 38] (fun v i wr => ∃ (k : Nat) (ys : List RowH), k ≤ n1 ∧ i = .int .i64 k ∧ dat ys = (ss.take k).map (fun s => dropL N s) ∧ (∀ y ∈ ys, wr.ownsRow w.heap.size 2 1 (rowV y) y.2.2.length (y.2.2.map (Value.int .i64))) ∧ (ss.take k).all (fun s => inB s 0 4294967295) = true ∧ Ow wr w.heap.size 25 v (ys.map rowV) ∧ Below w.heap.size w wr) (fun _ i _ => n1 - (intOf i).toNat)
          case atStart => exact ⟨0, [], Nat.zero_le _, rfl, rfl, by simp, rfl, (by have h := hoe; rw [hz0] at h; exact h), hBe⟩
          case round =>
            clear hoe hBe hB0 hz0
            obtain ⟨k, ys, hk, rfl, hd, hin, hsa, ho, hb⟩ := hrel
            have HD := Lib.hid hd
            have HI := Lib.hid hin
            have HSA := Lib.hid hsa
            have hyl : ys.length = k := by rw [← dat_len, hd, List.length_map, List.length_take]; omega
            have hzr := hb.size
            clear hd hin hsa
            by_cases hlt : k < n1
            · have hx1 := hx0
              obtain ⟨b1, off, rfl, hbb, hc1⟩ := (hx0.below (show Below w.heap.size w0 wr from ⟨hb.os.trans HB0.out.os.symm, hb.tape.trans HB0.out.tape.symm, hb.output.trans HB0.out.output.symm, by rw [HZ0.out]; exact hzr, fun i hi => (hb.block i hi).trans (HB0.out.block i hi).symm⟩)).get k (by omega)
              obtain ⟨s, hs⟩ : ∃ s, ss[k]'(by omega) = s := ⟨_, rfl⟩
              have hno := HNO.out k (by omega)
              have htk : ss.take (k + 1) = ss.take k ++ [s] := by rw [List.take_succ_eq_append_getElem (by omega), hs]
              rw [hs] at hc1 hno
              have HTK := Lib.hid htk
              clear htk hs hx1
              cases hsd : inB s 0 4294967295
              · obtain ⟨e1, e2⟩ := pk_no (hno hsd)
                have E := Lib.hid (And.intro e1 e2)
                have HSD := Lib.hid hsd
                clear e1 e2 hno hsd
                go_wp2_with (go_at_call 97; refine (spec_l07Seed_c _ _).mono ?_; rintro e w' ⟨rfl, rfl⟩; rw [HSD.out])
                go_ret2
                exact ⟨.slice none 0 0, by rw [E.out.1]; rfl, by rw [E.out.2]; exact World.ownsRow_nil _ _ _ _, hb⟩
              · have hsb := inB_true.1 hsd
                have HSD := Lib.hid hsd
                clear hno hsd
                go_wp2_with (go_at_call 97; refine (spec_l07Seed_c _ _).mono ?_; rintro e w' ⟨rfl, rfl⟩; rw [HSD.out])
                refine (spec_l07Drop_c wr N s (by omega) (by omega) hsb.1 (by omega)).mono ?_
                rintro e w2 ⟨v2, rfl, ho2, hb2⟩
                obtain ⟨S, q2, rfl, hp2⟩ := ho2.opn
                have hz2 := hb2.size
                have hoo := own_below ho hb2 (Nat.le_refl _)
                have hlen : (ys.map rowV).length + 1 ≤ 1099511627776 := by rw [List.length_map]; omega
                clear ho2
                go_wp2_with (at_builtin; refine appG Try.underlying93 infoI64s rfl (by decide) rfl _ _ rfl _ _ _ rfl (hoo.alloc _) _ _ _ rfl (cell_new1 _ _ _) rfl hlen (by simp; omega) ?_; intro v3 w3 ho3 hg3)
                have hba := (Below.refl w2.heap.size w2).alloc (Nat.le_refl _) (Obj.cells #[.slice S (dropL N s).length q2] 25)
                have hooa := own_below hoo hba (Nat.le_refl _)
                have hin3 : ∀ y ∈ ys ++ [(S, q2, dropL N s)], w3.ownsRow w.heap.size 2 1 (rowV y) y.2.2.length (y.2.2.map (Value.int .i64)) := by
                  intro y hy
                  rw [List.mem_append] at hy
                  rcases hy with hy | hy
                  · exact inner_kept (own_below (own_below (HI.out y hy) hb2 (Nat.le_refl _)) hba (Nat.le_refl _)) hooa (by decide) hg3
                  · obtain rfl : y = (S, q2, dropL N s) := by simpa using hy
                    exact own_base (inner_kept (own_below hp2 hba (Nat.le_refl _)) hooa (by decide) hg3) hzr
                have hb3 : Below w.heap.size w w3 := ((hb.trans (hb2.mono hzr)).trans (hba.mono (by omega))).grown hg3 (by simp; omega) (fun k' hk' => (hooa.lt k' hk').1)
                have HI3 := Lib.hid hin3
                clear hin3 hooa hba hg3 hp2 hoo
                go_wp2
                go_roundw
                case rel =>
                  refine ⟨k + 1, ys ++ [(S, q2, dropL N s)], by omega, by go_num, ?_, HI3.out, ?_, ?_, hb3⟩
                  · rw [HTK.out, List.map_append, ← HD.out]
                    unfold dat
                    rw [List.map_append]
                    rfl
                  · rw [HTK.out, List.all_append, HSA.out]
                    simp [HSD.out]
                  · rw [List.map_append]
                    exact ho3
                case measure => simp [intOf]; omega
            · have : k = n1 := by omega
              subst this
              have hP : dat ys = ss.map (fun s => dropL N s) := by rw [HD.out, take_all hl]
              have hokb := HOK.out (by have h := HSA.out; rwa [take_all hl] at h)
              obtain ⟨R, hR⟩ : ∃ R, peelEndL (N : Int) ss ds = R := ⟨_, rfl⟩
              have hR0 : peelEnd (dat ys) ds (List.replicate N (-1)) = R := by rw [hP, ← hR]; rfl
              have hgood := fun h => pk_good hokb hR h
              have hbad := fun (x : Int) (hx : x ∈ R) (h : x < 0) => pk_bad hR hx h
              have hdm : ∀ l ∈ dat ys, l.length ≤ N ∧ ∀ p ∈ l, 0 ≤ p ∧ p < N := by
                intro l hl'
                rw [hP] at hl'
                obtain ⟨s, _, rfl⟩ := List.mem_map.1 hl'
                exact ⟨by have := dropL_len (N : Int) s; simpa using this, dropL_mem (N : Int) s (by omega)⟩
              have hdb : ∀ d ∈ ds, 0 ≤ d ∧ d ≤ 255 := fun d hd => inB_true.1 (List.all_eq_true.1 H4.out d hd)
              have HGOOD := Lib.hid hgood
              have HBAD := Lib.hid hbad
              have HDM := Lib.hid hdm
              have HDB := Lib.hid hdb
              have HR0 := Lib.hid hR0
              obtain ⟨A5, c5, rfl, hp5⟩ := ho.opn
              rw [hyl] at hp5 ⊢
              have hyw : Sl wr w.heap.size A2 (ds.map (Value.int .i64)) := hy0.below ⟨hb.os.trans HB0.out.os.symm, hb.tape.trans HB0.out.tape.symm, hb.output.trans HB0.out.output.symm, by rw [HZ0.out]; exact hzr, fun i hi => (hb.block i hi).trans (HB0.out.block i hi).symm⟩
              clear hP hokb hR hR0 hgood hbad hdm hdb ho hx0 hy0
              obtain ⟨wP, ewP⟩ : ∃ x : World, x = wr := ⟨_, rfl⟩
              rw [← ewP] at hb hzr hp5 hyw HI ⊢
              clear ewP
              have hmkb := fun W : World => run_mk (P := Try.prog) Try.underlying32 infoBool rfl (by decide) N (by omega) .i64 .i64 W
              have hmki := fun W : World => run_mk (P := Try.prog) Try.underlying25 infoInt64 rfl (by decide) N (by omega) .i64 .i64 W
              obtain ⟨w5, e5⟩ : ∃ x : World, x = (wP.alloc (.cells (zeroRow (.bool false) N) 4)).alloc (.cells (zeroRow (.int .i64 0) N) 2) := ⟨_, rfl⟩
              have hB5 : Below wP.heap.size wP w5 := by rw [e5]; exact ((Below.refl _ _).alloc (Nat.le_refl _) _).alloc (by simp) _
              have hk5 : w5.ownsRow wP.heap.size 4 1 (.slice (some ⟨wP.heap.size, 0, none⟩) N N) N ((knL (List.replicate N (-1))).map Value.bool) := by
                rw [e5]
                have h := own_below (own_mk wP wP.heap.size 4 (.bool false) N (Nat.le_refl _) (by omega)) ((Below.refl _ _).alloc (Nat.le_refl _) (Obj.cells (zeroRow (.int .i64 0) N) 2)) (Nat.le_refl _)
                simpa [knL] using h
              have ho5 : w5.ownsRow (wP.heap.size + 1) 2 1 (.slice (some ⟨wP.heap.size + 1, 0, none⟩) N N) N ((ouL (List.replicate N (-1))).map (Value.int .i64)) := by
                rw [e5]
                have h := own_mk (wP.alloc (.cells (zeroRow (.bool false) N) 4)) (wP.heap.size + 1) 2 (.int .i64 0) N (by simp) (by omega)
                simpa [ouL] using h
              have hBw : Below w.heap.size w wP := hb
              have hbl0 : Bl N (List.replicate N (-1)) := ⟨List.length_replicate, fun x hx => by have := List.eq_of_mem_replicate hx; omega⟩
              have hu0 : unkn (List.replicate N (-1)) = N := by unfold unkn; rw [List.countP_replicate]; simp
              go_wp2
              rw [← e5]
              clear hmkb hmki e5
              go_loopw [12] (fun l wq => ∃ b : List Int, Bl N b ∧ l = .int .i64 (unkn b : Int) ∧ peelEnd (dat ys) ds b = R ∧ wq.ownsRow wP.heap.size 4 1 (.slice (some ⟨wP.heap.size, 0, none⟩) N N) N ((knL b).map Value.bool) ∧ wq.ownsRow (wP.heap.size + 1) 2 1 (.slice (some ⟨wP.heap.size + 1, 0, none⟩) N N) N ((ouL b).map (Value.int .i64)) ∧ Below wP.heap.size wP wq) (fun l _ => (intOf l).toNat)
              case atStart => exact ⟨_, hbl0, by rw [hu0], HR0.out, hk5, ho5, hB5⟩
              case round =>
                clear hbl0 hk5 ho5 hB5 hu0
                obtain ⟨b, hbl, rfl, hend, hkn, hou, hbq⟩ := hrel
                have HEND := Lib.hid hend
                have hub : unkn b ≤ 32 := by unfold unkn; have := List.countP_le_length (p := fun x : Int => decide (x < 0)) (l := b); have := hbl.1; omega
                clear hend
                by_cases hu : 0 < unkn b
                · go_wp2
                  go_loopw [12, 13, 14] (fun l f i wq => ∃ (k5 : Nat) (b' : List Int), k5 ≤ k ∧ i = .int .i64 k5 ∧ Bl N b' ∧ l = .int .i64 (unkn b' : Int) ∧ peelEnd (dat ys) ds b' = R ∧ ((f = .bool false ∧ b' = b ∧ peelK (dat ys) ds b k5 = none) ∨ (f = .bool true ∧ unkn b' + 1 = unkn b)) ∧ wq.ownsRow wP.heap.size 4 1 (.slice (some ⟨wP.heap.size, 0, none⟩) N N) N ((knL b').map Value.bool) ∧ wq.ownsRow (wP.heap.size + 1) 2 1 (.slice (some ⟨wP.heap.size + 1, 0, none⟩) N N) N ((ouL b').map (Value.int .i64)) ∧ Below wP.heap.size wP wq) (fun _ _ i _ => k - (intOf i).toNat)
                  case atStart => exact ⟨0, b, Nat.zero_le _, rfl, hbl, rfl, HEND.out, .inl ⟨rfl, rfl, rfl⟩, hkn, hou, hbq⟩
                  case round =>
                    clear hkn hou hbq
                    obtain ⟨k5, b', hk5, rfl, hbl', rfl, hend', hf, hkn, hou, hbq⟩ := hrel
                    have HE' := Lib.hid hend'
                    clear hend'
                    rcases hf with ⟨rfl, rfl, hpk⟩ | ⟨rfl, huu⟩
                    · have HPK := Lib.hid hpk
                      clear hpk
                      by_cases hlt : k5 < k
                      · have hp5q := own_below hp5 hbq (Nat.le_refl _)
                        have hyq := hyw.below (hbq.mono hzr)
                        obtain ⟨b1, off, rfl, hbb, hc1⟩ := hyq.get k5 (by omega)
                        have hkd : k5 < ds.length := by omega
                        have hky : k5 < ys.length := by omega
                        have hdd := HDB.out _ (List.getElem_mem hkd)
                        have hdg : ds.getD k5 0 = ds[k5]'hkd := by simp [List.getD, hkd]
                        obtain ⟨d, hd1⟩ : ∃ d, ds[k5]'hkd = d := ⟨_, rfl⟩
                        rw [hd1] at hc1 hdd hdg
                        obtain ⟨b3, off3, hA5, hbb3, hc3⟩ := (sl_of_own hp5q).get k5 hky
                        subst hA5
                        have hm := List.getElem_mem hky
                        have hiy := HI.out _ hm
                        have hmd : (ys[k5]'hky).2.2 ∈ dat ys := List.mem_map_of_mem hm
                        have hdl := HDM.out _ hmd
                        have hpg : (dat ys).getD k5 [] = (ys[k5]'hky).2.2 := by
                          rw [show (dat ys).getD k5 [] = (dat ys)[k5]'(by rw [dat_len]; exact hky) from by simp [List.getD, dat_len, hky]]
                          exact dat_get hky
                        have hsl := sl_of_own (own_below hiy hbq (Nat.le_refl _))
                        obtain ⟨⟨a, c, l⟩, hxx⟩ : ∃ x, ys[k5]'hky = x := ⟨_, rfl⟩
                        rw [hxx] at hc3 hdl hpg hsl
                        simp only [rowV] at hc3 hdl hpg hsl
                        have hps := @peelK_none (dat ys) ds b' k5 HPK.out
                        have hpo := fun o => @peelK_some (dat ys) ds b' k5 o HPK.out
                        rw [hpg, hdg] at hps hpo
                        have HPS := Lib.hid hps
                        have HPO := Lib.hid hpo
                        clear hps hpo hiy hm hmd hpg hdg hd1 hxx
                        go_wp2
                        go_loop [15, 16, 17, 83] (fun o c x i => ∃ q : Nat, q ≤ l.length ∧ i = .int .i64 q ∧ o = .int .i64 (opnK b' l q) ∧ c = .int .i64 (cntK b' l q : Int) ∧ x = .int .i64 (xK b' l d q)) (fun _ _ _ i => l.length - (intOf i).toNat)
                        case atStart => exact ⟨0, Nat.zero_le _, rfl, rfl, rfl, rfl⟩
                        case round =>
                          obtain ⟨q, hq, rfl, rfl, rfl, rfl⟩ := hrel
                          by_cases hltq : q < l.length
                          · obtain ⟨b4, off4, rfl, hbb4, hc4⟩ := hsl.get q hltq
                            have hj := hdl.2 (l[q]'hltq) (List.getElem_mem _)
                            have hpg2 : l.getD q 0 = l[q]'hltq := by simp [List.getD, hltq]
                            obtain ⟨j, hj2⟩ : ∃ j : Nat, l[q]'hltq = (j : Int) := ⟨(l[q]'hltq).toNat, by omega⟩
                            rw [hj2] at hc4 hj hpg2
                            have hjb : j < b'.length := by have := hbl'.1; omega
                            have hbg2 : b'.getD j 0 = b'[j]'hjb := by simp [List.getD, hjb]
                            have hkj := own_get hkn (j := j) (by unfold knL; rw [List.length_map]; exact hjb)
                            have hoj := own_get hou (j := j) (by unfold ouL; rw [List.length_map]; exact hjb)
                            have ekj : (knL b')[j]'(by unfold knL; rw [List.length_map]; exact hjb) = decide (0 ≤ b'.getD j 0) := by rw [hbg2]; simp [knL]
                            have eoj : (ouL b')[j]'(by unfold ouL; rw [List.length_map]; exact hjb) = if b'.getD j 0 < 0 then 0 else b'.getD j 0 := by rw [hbg2]; simp [ouL]
                            rw [ekj] at hkj
                            rw [eoj] at hoj
                            have h1 : cntK b' l (q + 1) = if unk b' (l.getD q 0) then cntK b' l q + 1 else cntK b' l q := rfl
                            have h2 : opnK b' l (q + 1) = if unk b' (l.getD q 0) then l.getD q 0 else opnK b' l q := rfl
                            have h3 : xK b' l d (q + 1) = if unk b' (l.getD q 0) then xK b' l d q else bits .xor .i64 (xK b' l d q) (b'.getD (l.getD q 0).toNat 0) := rfl
                            have hun : unk b' (l.getD q 0) = decide (b'.getD j 0 < 0) := by unfold unk; rw [hpg2, Int.toNat_natCast]
                            rw [hun] at h1
                            rw [hun, hpg2] at h2
                            rw [hun, hpg2, Int.toNat_natCast] at h3
                            obtain ⟨v, hv⟩ : ∃ v, b'.getD j 0 = v := ⟨_, rfl⟩
                            rw [hv] at hkj hoj h1 h2 h3
                            have hjn : (0 : Int) ≤ (j : Int) := by omega
                            have hjl : (j : Int) < (N : Int) := by omega
                            have hcl : cntK b' l q ≤ q := by
                              clear h1 h2 h3 hq hltq hc4 hpg2 hj2 hj hjb hbg2 ekj eoj hun hkj hoj
                              induction q with
                              | zero => exact Nat.le_refl _
                              | succ q ih => rw [cntK]; split <;> omega
                            have hlN := hdl.1
                            clear hun hpg2 hj2 hbg2 hv ekj eoj
                            by_cases hv0 : 0 ≤ v
                            · rw [decide_eq_true hv0] at hkj
                              rw [if_neg (show ¬ v < 0 by omega)] at hoj
                              rw [decide_eq_false (show ¬ v < 0 by omega), if_neg (by decide)] at h1 h2 h3
                              have HH1 := Lib.hid h1
                              have HH2 := Lib.hid h2
                              have HH3 := Lib.hid h3
                              clear h1 h2 h3
                              go_wp2
                              go_round
                              case rel => exact ⟨q + 1, by omega, by go_num, by rw [HH2.out], by rw [HH1.out], by rw [HH3.out]⟩
                              case measure => simp [intOf]; omega
                            · rw [decide_eq_false hv0] at hkj
                              rw [decide_eq_true (show v < 0 by omega), if_pos rfl] at h1 h2 h3
                              have HH1 := Lib.hid h1
                              have HH2 := Lib.hid h2
                              have HH3 := Lib.hid h3
                              clear h1 h2 h3 hoj
                              go_wp2
                              go_round
                              case rel => exact ⟨q + 1, by omega, by go_num, by rw [HH2.out], by rw [HH1.out]; go_num, by rw [HH3.out]⟩
                              case measure => simp [intOf]; omega
                          · have : q = l.length := by omega
                            subst this
                            have hop := opnK_at (b := b') (ps := l) (k := l.length) (Nat.le_refl _)
                            have hxb := xK_bd (ps := l) hbl' hdd.1 hdd.2 l.length
                            have hcl : cntK b' l l.length ≤ 64 := by
                              have h : ∀ q, cntK b' l q ≤ q := fun q => by
                                induction q with
                                | zero => exact Nat.le_refl _
                                | succ q ih => rw [cntK]; split <;> omega
                              have := h l.length
                              have := hdl.1
                              omega
                            have hsolv : sol b' l d = if cntK b' l l.length == 1 then some (opnK b' l l.length, xK b' l d l.length) else none := rfl
                            obtain ⟨p, hp⟩ : ∃ p, opnK b' l l.length = p := ⟨_, rfl⟩
                            obtain ⟨x, hxx⟩ : ∃ x, xK b' l d l.length = x := ⟨_, rfl⟩
                            obtain ⟨cc, hcc⟩ : ∃ c, cntK b' l l.length = c := ⟨_, rfl⟩
                            rw [hp, hcc] at hop
                            rw [hxx] at hxb
                            rw [hcc] at hcl
                            rw [hp, hxx, hcc] at hsolv
                            rw [hp, hxx, hcc]
                            clear hp hxx hcc
                            by_cases hc1' : cc = 1
                            · have hsome : sol b' l d = some (p, x) := by rw [hsolv, hc1']; rfl
                              have hpo2 := HPO.out (p, x) hsome hkd
                              have hpm : p ∈ l ∧ unk b' p = true := by
                                rcases hop with h | h
                                · omega
                                · exact h.2
                              have hpr := hdl.2 p hpm.1
                              obtain ⟨j, rfl⟩ : ∃ j : Nat, p = (j : Int) := ⟨p.toNat, by omega⟩
                              have hjb : j < b'.length := by have := hbl'.1; omega
                              have hneg : b'[j]'hjb < 0 := by
                                have h := hpm.2
                                unfold unk at h
                                rw [Int.toNat_natCast, show b'.getD j 0 = b'[j]'hjb from by simp [List.getD, hjb]] at h
                                simpa using h
                              have hus := unkn_set hjb hneg hxb.1
                              have hend2 : peelEnd (dat ys) ds (b'.set j x) = R := by
                                have h := peelEnd_some hpo2 (by simpa using hus)
                                rw [HE'.out] at h
                                simpa using h.symm
                              have hkj := own_get hkn (j := j) (by unfold knL; rw [List.length_map]; exact hjb)
                              have hoj := own_get hou (j := j) (by unfold ouL; rw [List.length_map]; exact hjb)
                              obtain ⟨kv, hkv⟩ : ∃ v, (knL b')[j]'(by unfold knL; rw [List.length_map]; exact hjb) = v := ⟨_, rfl⟩
                              obtain ⟨ov, hov⟩ : ∃ v, (ouL b')[j]'(by unfold ouL; rw [List.length_map]; exact hjb) = v := ⟨_, rfl⟩
                              rw [hkv] at hkj
                              rw [hov] at hoj
                              have hfk := hkn.frozenAt j
                              have hfo := hou.frozenAt j
                              have hs1 : ((wr.setCell ⟨wP.heap.size, j, none⟩ (.bool true)).setCell ⟨wP.heap.size + 1, j, none⟩ (.int .i64 x)).ownsRow wP.heap.size 4 1 (.slice (some ⟨wP.heap.size, 0, none⟩) N N) N ((knL (b'.set j x)).map Value.bool) := by
                                have e : (knL (b'.set j x)).map Value.bool = ((knL b').map Value.bool).set j (.bool true) := by
                                  unfold knL
                                  rw [List.map_set, List.map_set, decide_eq_true hxb.1]
                                rw [e]
                                exact own_set_other (hkn.stored j (.bool true)).1 (by simp) _
                              have hs2 : ((wr.setCell ⟨wP.heap.size, j, none⟩ (.bool true)).setCell ⟨wP.heap.size + 1, j, none⟩ (.int .i64 x)).ownsRow (wP.heap.size + 1) 2 1 (.slice (some ⟨wP.heap.size + 1, 0, none⟩) N N) N ((ouL (b'.set j x)).map (Value.int .i64)) := by
                                have e : (ouL (b'.set j x)).map (Value.int .i64) = ((ouL b').map (Value.int .i64)).set j (.int .i64 x) := by
                                  unfold ouL
                                  rw [List.map_set, List.map_set, if_neg (show ¬ x < 0 by omega)]
                                rw [e]
                                exact ((own_set_other hou (p := ⟨wP.heap.size, j, none⟩) (by simp) _).stored j (.int .i64 x)).1
                              have HS := Lib.hid (And.intro hs1 hs2)
                              have HE2 := Lib.hid hend2
                              have HUS := Lib.hid hus
                              have hjn : (0 : Int) ≤ (j : Int) := by omega
                              have hjl : (j : Int) < (N : Int) := by omega
                              subst hc1'
                              clear hkn hou hs1 hs2 hend2 hus hpo2 hsome hsolv hop hpm hneg hkv hov hsl hc3 hc1
                              go_wp2
                              go_roundw
                              case rel => exact ⟨k5 + 1, b'.set j x, by omega, by go_num, hbl'.set hxb.1 hxb.2 j, by have := HUS.out; congr 1; omega, HE2.out, .inr ⟨rfl, HUS.out⟩, HS.out.1, HS.out.2, (hbq.setCell (p := ⟨wP.heap.size, j, none⟩) (Nat.le_refl _) _).setCell (p := ⟨wP.heap.size + 1, j, none⟩) (by simp) _⟩
                              case measure => simp [intOf]; omega
                            · have hnone : sol b' l d = none := by rw [hsolv, if_neg (by simpa using hc1')]
                              have HN := Lib.hid (HPS.out hnone)
                              have hcb : ((cc : Int) == 1) = false := by simp; omega
                              have hcd : ¬ (cc : Int) = 1 := by omega
                              clear hnone hsolv hop hsl hc3 hc1
                              go_wp2
                              go_roundw
                              case rel => exact ⟨k5 + 1, b', by omega, by go_num, hbl', rfl, HE'.out, .inl ⟨rfl, rfl, HN.out⟩, hkn, hou, hbq⟩
                              case measure => simp [intOf]; omega
                      · have : k5 = k := by omega
                        subst this
                        obtain ⟨x, hxm, hx0⟩ := unkn_pos hu
                        have hbR : b' = R := by rw [← HEND.out, peelEnd_none (by unfold peel1; rw [hl2]; exact HPK.out)]
                        have E := Lib.hid (HBAD.out x (hbR ▸ hxm) hx0)
                        clear hxm hx0 hbR
                        go_wp2
                        go_ret2
                        exact ⟨.slice none 0 0, by rw [E.out.1]; rfl, by rw [E.out.2]; exact World.ownsRow_nil _ _ _ _, hBw.trans (hbq.mono hzr)⟩
                    · have HUU := Lib.hid huu
                      clear huu
                      by_cases hlt : k5 < k
                      all_goals
                        go_wp2
                        go_roundw
                        case rel => exact ⟨b', hbl', rfl, HE'.out, hkn, hou, hbq⟩
                        case measure => have := HUU.out; simp [intOf]; omega
                · have h0 : unkn b = 0 := by omega
                  have hbR : b = R := by rw [← HEND.out, peelEnd_all h0]
                  have hall := unkn_zero h0
                  have E := Lib.hid (HGOOD.out (by rw [← hbR]; exact hall))
                  have hob : ouL b = b := ouL_all hall
                  rw [hob] at hou
                  have HBR := Lib.hid hbR
                  clear hall hob hbR
                  go_wp2
                  go_ret2
                  refine ⟨.slice (some ⟨wP.heap.size + 1, 0, none⟩) N N, by rw [E.out.1]; rfl, ?_, hBw.trans (hbq.mono hzr)⟩
                  unfold Ow
                  rw [E.out.2, ← HBR.out, List.length_map]
                  show World.ownsRow _ _ _ _ _ b.length _
                  rw [hbl.1]
                  exact own_base hou (by omega)
      · have heq : ((n1 : Int) == (n2 : Int)) = false := by simp; omega
        have hnn : (n1 == n2) = false := by simpa using hne
        obtain ⟨e1, e2⟩ := pk_no (n := n) (ss := ss) (ds := ds) (by unfold peelOkB; rw [hl, hl2, hnn]; simp)
        rw [e1, e2]
        clear h1 e1 e2
        go_enter Try.func21, Try.ntmps21
        go_wp2_with (first | (go_at_call 96; refine (spec_l00In_c _ _ _ _).mono ?_; rintro e w' ⟨rfl, rfl⟩; rw [H1.out]) | (go_at_call 100; refine (spec_l07Blocks_c _ _ A2 n2 cap2 ds hl2 (by omega) hy 0 64).mono ?_; rintro e w' ⟨rfl, q, rfl⟩; rw [HBK.out]))
        go_ret2
        exact ⟨_, rfl, World.ownsRow_nil _ _ _ _, below_of_drewN _ _ _⟩

end Go.Proofs.Ytlcnfaodkglhpaa
