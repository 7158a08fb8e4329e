/-
  Plain: what FnParities asks of a valid code: its words, weights, lists, leaders.
  Conditions: valid codes.
-/
import Derived.Test.YtldnhflgpbcmeaaEC
import Derived.Test.YtldnhflgpbcmeaaRE
namespace Go.Proofs.Ytldnhflgpbcmeaa
open Go.RowKit

theorem xor_same {a b : Nat} (h : a ^^^ b = 0) : a = b := by
  have h2 : (a ^^^ b) ^^^ b = b := by rw [h, Nat.zero_xor]
  rw [Nat.xor_assoc, Nat.xor_self, Nat.xor_zero] at h2
  exact h2
theorem wt_M {x M : Nat} (hM : M ≤ 16) (hx : x < 2 ^ M) : wt (x : Int) = ((wtN x M : Nat) : Int) := by rw [wt_wtN, wtN_16 hM hx]
theorem enc_zero {M : Nat} (hM : M ≤ 16) {xs : List Int} (h : RM M xs) : encL xs 0 = 0 := by
  have h1 := enc_is hM h (k := 0) (by decide)
  have e : lin (rowF xs) (Nat.testBit 0) xs.length = 0 := by
    rw [lin_congr (s := rowF xs) (d := fun _ => false) (fun _ _ => rfl) (fun i _ => Nat.zero_testBit i)]
    exact lin_zero _ _
  rw [e] at h1
  exact_mod_cast h1
theorem code_mem {xs : List Int} {k : Nat} (hk : k < 2 ^ xs.length) : encL xs (k : Int) ∈ codeL xs := by
  unfold codeL codeK
  exact List.mem_map.2 ⟨k, List.mem_range.2 hk, rfl⟩
/-- sums of the numbers of a row -/
def sumW (ws : List Int) : Nat → Int | 0 => 0 | k + 1 => sumW ws k + ws.getD k 0
theorem countP_split (ws : List Int) (k : Nat) : (ws.countP fun x => decide (wt x < ((k + 1 : Nat) : Int))) = (ws.countP fun x => decide (wt x < (k : Int))) + ws.countP fun x => wt x == (k : Int) := by
  induction ws with
  | nil => rfl
  | cons x ws ih =>
    rw [List.countP_cons, List.countP_cons, List.countP_cons, ih]
    rcases Int.lt_trichotomy (wt x) (k : Int) with h | h | h
    · rw [show decide (wt x < ((k + 1 : Nat) : Int)) = true from decide_eq_true (by omega), show decide (wt x < (k : Int)) = true from decide_eq_true h, show (wt x == (k : Int)) = false by simp; omega]
      simp only [if_true, Bool.false_eq_true, if_false]
      omega
    · rw [show decide (wt x < ((k + 1 : Nat) : Int)) = true from decide_eq_true (by omega), show decide (wt x < (k : Int)) = false from decide_eq_false (by omega), show (wt x == (k : Int)) = true by simp [h]]
      simp only [if_true, Bool.false_eq_true, if_false]
      omega
    · rw [show decide (wt x < ((k + 1 : Nat) : Int)) = false from decide_eq_false (by omega), show decide (wt x < (k : Int)) = false from decide_eq_false (by omega), show (wt x == (k : Int)) = false by simp; omega]
      simp only [Bool.false_eq_true, if_false]
      omega
theorem sumW_is {M : Nat} (ws : List Int) (h0 : ∀ x ∈ ws, 0 ≤ wt x) : ∀ k, k ≤ M + 1 → sumW (wtRow M ws) k = ((ws.countP fun x => decide (wt x < (k : Int)) : Nat) : Int)
  | 0, _ => by
    have : (ws.countP fun x => decide (wt x < ((0 : Nat) : Int))) = 0 := by
      rw [List.countP_eq_zero]
      intro x hx
      have := h0 x hx
      simp; omega
    rw [this]; rfl
  | k + 1, hk => by
    rw [sumW, sumW_is ws h0 k (by omega), wtRow_get M ws k (by omega), countP_split]
    push_cast
    rfl
theorem sumW_bd {M : Nat} {ws : List Int} (h0 : ∀ x ∈ ws, 0 ≤ wt x) {k : Nat} (hk : k ≤ M + 1) : 0 ≤ sumW (wtRow M ws) k ∧ sumW (wtRow M ws) k ≤ ws.length := by
  rw [sumW_is ws h0 k hk]
  have := List.countP_le_length (p := fun x => decide (wt x < (k : Int))) (l := ws)
  omega

theorem v_word {M : Nat} {xs : List Int} (hv : validParB (M : Int) xs = true) (k : Int) : ∃ x : Nat, encL xs k = (x : Int) ∧ x < 2 ^ M := by
  have h := du_of hv
  have hb := encK_bd h.m (fun x hx => h.rm.mem hx) k xs.length
  refine ⟨(encL xs k).toNat, ?_, ?_⟩
  · unfold encL; omega
  · have e : ((encL xs k).toNat : Int) < ((2 ^ M : Nat) : Int) := by push_cast; unfold encL; omega
    exact_mod_cast e
theorem v_sp {M : Nat} {xs : List Int} (hv : validParB (M : Int) xs = true) (x : Nat) : Sp (rowF xs) xs.length x ↔ (x : Int) ∈ codeL xs := by
  have h := du_of hv
  rw [sp_enc h.m h.rm h.n8]
  constructor
  · rintro ⟨k, hk, he⟩; rw [← he]; exact code_mem hk
  · exact fun hm => codeL_mem hm
theorem v_zero {M : Nat} {xs : List Int} (hv : validParB (M : Int) xs = true) : encL xs 0 = 0 := enc_zero (du_of hv).m (du_of hv).rm
theorem v_wt {M : Nat} {xs : List Int} (hv : validParB (M : Int) xs = true) {x : Int} (hx : x ∈ codeL xs) : 0 ≤ wt x ∧ wt x ≤ M := by
  have h := du_of hv
  have := wt_bd16 h.m (codeL_bd h.m (fun x hx => h.rm.mem hx) hx)
  exact this.2.2
theorem v_wt0 {M : Nat} {xs : List Int} (hv : validParB (M : Int) xs = true) {k : Nat} (hk : k < 2 ^ xs.length) : (wt (encL xs (k : Int)) == 0) = (k == 0) := by
  have h := du_of hv
  obtain ⟨x, e, hx⟩ := v_word hv (k : Int)
  rw [e, wt_M h.m hx]
  by_cases hk0 : k = 0
  · subst hk0
    have e2 : encL xs ((0 : Nat) : Int) = 0 := v_zero hv
    rw [e2] at e
    have : x = 0 := by omega
    subst this
    rw [wtN_zero]; rfl
  · have : ¬ wtN x M = 0 := fun h0 => by
      have := wtN_eq_zero hx h0
      subst this
      have e2 : encL xs ((0 : Nat) : Int) = 0 := v_zero hv
      exact hk0 (enc_inj hv hk (Nat.pow_pos (by decide)) (e.trans e2.symm))
    rw [show (k == 0) = false by simp [hk0]]
    simp
    exact this
theorem v_first {M : Nat} {xs : List Int} (hv : validParB (M : Int) xs = true) : (wtRow M (codeL xs)).getD 0 0 = 1 := by
  rw [wtRow_get M _ 0 (Nat.zero_le _)]
  have e : ((codeL xs).countP fun x => wt x == ((0 : Nat) : Int)) = (List.range (2 ^ xs.length)).countP fun k => k == 0 := by
    unfold codeL codeK
    rw [List.countP_map]
    apply List.countP_congr
    intro k hk
    have := v_wt0 hv (List.mem_range.1 hk)
    simp only [Function.comp]
    rw [show (((0 : Nat) : Int)) = 0 from rfl, this]
  rw [e]
  obtain ⟨N, hN⟩ : ∃ N, 2 ^ xs.length = N + 1 := ⟨2 ^ xs.length - 1, by have : 0 < 2 ^ xs.length := Nat.pow_pos (by decide); omega⟩
  rw [hN, List.range_succ_eq_map, List.countP_cons]
  rw [show (List.map Nat.succ (List.range N)).countP (fun k => k == 0) = 0 by rw [List.countP_eq_zero]; intro x hx; obtain ⟨y, _, rfl⟩ := List.mem_map.1 hx; simp]
  rfl
theorem v_sum {M : Nat} {xs : List Int} (hv : validParB (M : Int) xs = true) : sumW (wtRow M (codeL xs)) (M + 1) = ((2 ^ xs.length : Nat) : Int) := by
  rw [sumW_is _ (fun x hx => (v_wt hv hx).1) _ (Nat.le_refl _), ← codeL_len xs]
  congr 1
  rw [List.countP_eq_length]
  intro x hx
  have := v_wt hv hx
  simp; omega
theorem v_dist {M : Nat} {xs : List Int} (hv : validParB (M : Int) xs = true) : ∃ d : Nat, distV (M : Int) xs = (d : Int) ∧ 1 ≤ d ∧ d ≤ M ∧ 0 < (wtRow M (codeL xs)).getD d 0 ∧ ∀ j, 1 ≤ j → j < d → (wtRow M (codeL xs)).getD j 0 = 0 := by
  obtain ⟨d, hd⟩ := dist_some hv
  obtain ⟨h1, h2, h3, h4⟩ := distK_mem hd
  refine ⟨d, dist_val hv hd, h1, h2, h3, fun j hj1 hj2 => ?_⟩
  have := h4 j hj1 hj2
  rw [wtRow_get M _ j (by omega)] at this ⊢
  omega
theorem v_far {M : Nat} {xs : List Int} (hv : validParB (M : Int) xs = true) {d : Nat} (h4 : ∀ j, 1 ≤ j → j < d → (wtRow M (codeL xs)).getD j 0 = 0) {x : Nat} (hx : x < 2 ^ M) (hm : Sp (rowF xs) xs.length x) (h0 : x ≠ 0) : d ≤ wtN x M := by
  have h := du_of hv
  rcases Nat.lt_or_ge (wtN x M) d with hlt | hge
  · have hpos : 1 ≤ wtN x M := by
      rcases Nat.eq_zero_or_pos (wtN x M) with e | e
      · exact absurd (wtN_eq_zero hx e) h0
      · exact e
    have hle := v_wt hv ((v_sp hv x).1 hm)
    rw [wt_M h.m hx] at hle
    have hz := h4 _ hpos hlt
    rw [wtRow_get M _ _ (by omega)] at hz
    have : 0 < (codeL xs).countP fun y => wt y == ((wtN x M : Nat) : Int) := by
      rw [List.countP_pos_iff]
      exact ⟨x, (v_sp hv x).1 hm, by rw [wt_M h.m hx]; simp⟩
    omega
  · exact hge
theorem v_mend {M : Nat} {xs : List Int} (hv : validParB (M : Int) xs = true) {d : Nat} (h4 : ∀ j, 1 ≤ j → j < d → (wtRow M (codeL xs)).getD j 0 = 0) {x e : Nat} (hx : x < 2 ^ M) (hm : Sp (rowF xs) xs.length x) (he : e < 2 ^ M) (hd : 2 * wtN e M < d) : leadV M (dualL M xs) ((x ^^^ e : Nat) : Int) = (e : Int) := by
  have h := du_of hv
  have h2 := pow16N h.m
  have hxe : x ^^^ e < 2 ^ M := Nat.xor_lt_two_pow hx he
  obtain ⟨l, e1, hl, hs, hmin⟩ := lead_of (D := dualL M xs) hxe
  have hs2 : synL (dualL M xs) (l : Int) = synL (dualL M xs) (e : Int) := by
    rw [hs, syn_xor h.m h.rmD (by omega) (by omega), (h.syn_zero hx).2 hm, Nat.zero_xor]
  have hmin2 := hmin e he (by rw [← hs2, hs])
  rw [wt_M h.m hl, wt_M h.m he] at hmin2
  have hle : l ^^^ e < 2 ^ M := Nat.xor_lt_two_pow hl he
  have hsz : synL (dualL M xs) ((l ^^^ e : Nat) : Int) = 0 := by
    rw [syn_xor h.m h.rmD (by omega) (by omega), hs2, Nat.xor_self]
  have hsp := (h.syn_zero hle).1 hsz
  rw [e1]
  by_cases hz : l ^^^ e = 0
  · rw [xor_same hz]
  · have g1 := v_far hv h4 hle hsp hz
    have g2 := wtN_xor l e M
    omega
theorem v_mend0 {M : Nat} {xs : List Int} (hv : validParB (M : Int) xs = true) {x : Nat} (hx : x < 2 ^ M) (hm : Sp (rowF xs) xs.length x) : leadV M (dualL M xs) (x : Int) = 0 := by
  obtain ⟨d, _, h1, _, _, h4⟩ := v_dist hv
  have := v_mend hv h4 hx hm (e := 0) (Nat.pow_pos (by decide)) (by rw [wtN_zero]; omega)
  rw [Nat.xor_zero] at this
  exact this
theorem v_any {M : Nat} {xs : List Int} (hv : validParB (M : Int) xs = true) {x : Nat} (hx : x < 2 ^ M) : ∃ l : Nat, leadV M (dualL M xs) (x : Int) = (l : Int) ∧ l < 2 ^ M ∧ x ^^^ l < 2 ^ M ∧ (∃ k : Nat, k < 2 ^ xs.length ∧ encL xs (k : Int) = ((x ^^^ l : Nat) : Int)) ∧ x ^^^ (x ^^^ l) = l := by
  have h := du_of hv
  have h2 := pow16N h.m
  obtain ⟨l, e1, hl, hs, _⟩ := lead_of (D := dualL M xs) hx
  have hxl : x ^^^ l < 2 ^ M := Nat.xor_lt_two_pow hx hl
  refine ⟨l, e1, hl, hxl, ?_, ?_⟩
  · rw [← sp_enc h.m h.rm h.n8]
    refine (h.syn_zero hxl).1 ?_
    rw [syn_xor h.m h.rmD (by omega) (by omega), hs, Nat.xor_self]
  · rw [← Nat.xor_assoc, Nat.xor_self, Nat.zero_xor]
theorem v_syn {M : Nat} {xs : List Int} (hv : validParB (M : Int) xs = true) {x : Nat} (hx : x < 2 ^ M) (hm : Sp (rowF xs) xs.length x) : synL (dualL M xs) (x : Int) = 0 := ((du_of hv).syn_zero hx).2 hm
theorem v_lead0 {M : Nat} {xs : List Int} (hv : validParB (M : Int) xs = true) : (leadK (dualL M xs) (2 ^ M)).getD 0 0 = 0 := by
  have hz : Sp (rowF xs) xs.length 0 := ⟨fun _ => false, lin_zero _ _⟩
  have h1 := v_mend0 hv (Nat.pow_pos (by decide)) hz
  unfold leadV at h1
  have h2 := v_syn hv (Nat.pow_pos (by decide)) hz
  rw [h2] at h1
  exact h1
theorem v_row {xs : List Int} {k : Nat} (hk : k < xs.length) : Sp (rowF xs) xs.length (rowF xs k) := ⟨fun i => decide (i = k), lin_one _ hk⟩
theorem v_dual {M : Nat} {xs : List Int} (hv : validParB (M : Int) xs = true) {i k : Nat} (hi : i < (dualL M xs).length) (hk : k < xs.length) : wt (bits .and .i64 ((dualL M xs).getD i 0) (xs.getD k 0)) % 2 = 0 := by
  have h := du_of hv
  have h1 := v_syn hv (rowF_lt h.rm k) (v_row hk)
  have h2 := syn_bit (dualL M xs) ((rowF xs k : Nat) : Int) i
  rw [h1, Nat.zero_testBit, decide_eq_true hi, Bool.true_and, rowF_cast h.rm] at h2
  have h3 := h2.symm
  unfold oddAt at h3
  have h4 : wt (bits .and .i64 ((dualL M xs).getD i 0) (xs.getD k 0)) % 2 ≠ 1 := fun e => by rw [e] at h3; simp at h3
  omega
theorem v_and {M : Nat} {xs : List Int} (hv : validParB (M : Int) xs = true) (i k : Nat) : 0 ≤ bits .and .i64 ((dualL M xs).getD i 0) (xs.getD k 0) ∧ bits .and .i64 ((dualL M xs).getD i 0) (xs.getD k 0) < 65536 := by
  have h := du_of hv
  have h2 := pow16N h.m
  have h3 := rowF_lt h.rm k
  have h4 := rowF_lt h.rmD i
  rw [← rowF_cast h.rm, ← rowF_cast h.rmD, and_nat _ _ (by omega) (by omega)]
  have := Nat.and_le_left (n := rowF (dualL M xs) i) (m := rowF xs k)
  omega
theorem v_ech {M : Nat} {xs : List Int} (hv : validParB (M : Int) xs = true) {x : Nat} (hm : Sp (rowF xs) xs.length x) : ∃ k : Nat, k < 2 ^ (echL M xs).length ∧ encL (echL M xs) (k : Int) = (x : Int) := by
  have h := du_of hv
  have e := h.el
  have h2 : Sp (rowF (echL M xs)) xs.length x := h.s2.sp hm
  rw [← e] at h2
  exact (sp_enc h.m h.em (by rw [e]; exact h.n8) x).1 h2
/-! lists -/
theorem v_nodup {M : Nat} {xs : List Int} (hv : validParB (M : Int) xs = true) : (codeL xs).Nodup := by
  unfold codeL codeK
  rw [List.Nodup, List.pairwise_map]
  refine List.Pairwise.imp_of_mem ?_ List.nodup_range
  intro a b ha hb hab e
  exact hab (enc_inj hv (List.mem_range.1 ha) (List.mem_range.1 hb) e)
theorem v_ok {M : Nat} {xs : List Int} (hv : validParB (M : Int) xs = true) {x : Nat} (hx : x < 2 ^ M) {far : Int} (h0 : 0 ≤ far) (h1 : far ≤ 16) : okL (M : Int) xs (x : Int) far = true := by
  unfold okL
  have e : ((x : Nat) : Int) < ((2 ^ M : Nat) : Int) := by exact_mod_cast hx
  push_cast at e
  rw [hv, Int.toNat_natCast, Bool.true_and, Bool.and_eq_true, inB_true, inB_true]
  omega
theorem v_list0 {M : Nat} {xs : List Int} (hv : validParB (M : Int) xs = true) {x : Nat} (hx : x < 2 ^ M) (hm : Sp (rowF xs) xs.length x) : listV (M : Int) xs (x : Int) 0 = [(x : Int)] := by
  have h := du_of hv
  have h2 := pow16N h.m
  unfold listV
  rw [if_pos (v_ok hv hx (by decide) (by decide))]
  have hmem : (x : Int) ∈ sortL (codeL xs) := (sortL_perm _).mem_iff.2 ((v_sp hv x).1 hm)
  have hnd : (sortL (codeL xs)).Nodup := (sortL_perm (codeL xs)).nodup_iff.2 (v_nodup hv)
  have e : ∀ y ∈ sortL (codeL xs), nearB (x : Int) 0 y = (y == (x : Int)) := by
    intro y hy
    have hy2 := (sortL_perm (codeL xs)).mem_iff.1 hy
    have hb := codeL_bd h.m (fun x hx => h.rm.mem hx) hy2
    obtain ⟨z, rfl⟩ : ∃ z : Nat, y = (z : Int) := ⟨y.toNat, by omega⟩
    have hz : z < 2 ^ M := by have := hb.2; exact_mod_cast this
    unfold nearB
    rw [xorI_nat _ _ (by omega) (by omega), wt_M h.m (Nat.xor_lt_two_pow hz hx)]
    by_cases hzx : z = x
    · subst hzx; simp [wtN_zero]
    · have : ¬ wtN (z ^^^ x) M = 0 := fun h0 => hzx (xor_same (wtN_eq_zero (Nat.xor_lt_two_pow hz hx) h0))
      rw [show ((z : Int) == (x : Int)) = false by simp; omega, decide_eq_false (by omega)]
  rw [List.filter_congr e]
  have hc : (sortL (codeL xs)).count (x : Int) = 1 := by rw [hnd.count, if_pos hmem]
  have := List.filter_beq (x : Int) (l := sortL (codeL xs))
  rw [this, hc]
  rfl
theorem v_listA {M : Nat} {xs : List Int} (hv : validParB (M : Int) xs = true) : listV (M : Int) xs 0 16 = sortL (codeL xs) := by
  have h := du_of hv
  have h2 := pow16N h.m
  unfold listV
  have hok : okL (M : Int) xs 0 16 = true := v_ok hv (x := 0) (Nat.pow_pos (by decide)) (by decide) (by decide)
  rw [if_pos hok]
  rw [List.filter_eq_self]
  intro y hy
  have hy2 := (sortL_perm (codeL xs)).mem_iff.1 hy
  have hb := codeL_bd h.m (fun x hx => h.rm.mem hx) hy2
  obtain ⟨z, rfl⟩ : ∃ z : Nat, y = (z : Int) := ⟨y.toNat, by omega⟩
  have hz : z < 2 ^ M := by have := hb.2; exact_mod_cast this
  unfold nearB
  have e := xorI_nat z 0 (by omega) (by decide)
  rw [Nat.xor_zero] at e
  rw [show (0 : Int) = ((0 : Nat) : Int) from rfl, e]
  have := (wt_bd16 h.m hb).2.2.2
  have := h.m
  rw [decide_eq_true_eq]
  omega
theorem v_listA_len {M : Nat} {xs : List Int} (hv : validParB (M : Int) xs = true) : (listV (M : Int) xs 0 16).length = 2 ^ xs.length := by rw [v_listA hv, sortL_len, codeL_len]
theorem v_listA_0 {M : Nat} {xs : List Int} (hv : validParB (M : Int) xs = true) : (listV (M : Int) xs 0 16).getD 0 0 = 0 := by
  have h := du_of hv
  rw [v_listA hv]
  have hmem : (0 : Int) ∈ sortL (codeL xs) := (sortL_perm _).mem_iff.2 (by have := code_mem (xs := xs) (k := 0) (Nat.pow_pos (by decide)); rw [show ((0 : Nat) : Int) = 0 from rfl, v_zero hv] at this; exact this)
  have hs := sortL_sorted (codeL xs)
  have hb : ∀ y ∈ sortL (codeL xs), 0 ≤ y := fun y hy => (codeL_bd h.m (fun x hx => h.rm.mem hx) ((sortL_perm (codeL xs)).mem_iff.1 hy)).1
  cases hl : sortL (codeL xs) with
  | nil => rw [hl] at hmem; cases hmem
  | cons a l =>
    rw [hl] at hmem hs hb
    have h0 := hb a (List.mem_cons_self)
    rcases List.mem_cons.1 hmem with e | e
    · simp [← e]
    · have := (List.pairwise_cons.1 hs).1 0 e
      simp; omega
/-! wrong bits -/
def errN (M s k : Nat) : Nat := lin (fun q => 2 ^ ((s + q) % M)) (fun _ => true) k
theorem errN_succ (M s k : Nat) : errN M s (k + 1) = errN M s k ^^^ 2 ^ ((s + k) % M) := rfl
theorem errN_lt {M s : Nat} (h1 : 1 ≤ M) (k : Nat) : errN M s k < 2 ^ M := lin_lt fun _ _ => Nat.pow_lt_pow_right (by decide) (Nat.mod_lt _ h1)
theorem errN_wt {M s k : Nat} (h1 : 1 ≤ M) (hk : k ≤ M) : wtN (errN M s k) M = k := by
  refine wtN_pows k (fun q _ => Nat.mod_lt _ h1) (fun a b ha hb e => ?_)
  have e1 : (s + a) % M = (s + b) % M := e
  rcases Nat.lt_trichotomy a b with h | h | h
  · have h3 := Nat.sub_mod_eq_zero_of_mod_eq e1.symm
    rw [show s + b - (s + a) = b - a by omega, Nat.mod_eq_of_lt (by omega)] at h3
    omega
  · exact h
  · have h3 := Nat.sub_mod_eq_zero_of_mod_eq e1
    rw [show s + a - (s + b) = a - b by omega, Nat.mod_eq_of_lt (by omega)] at h3
    omega
theorem xorI_w {M x y : Nat} (hM : M ≤ 16) (hx : x < 2 ^ M) (hy : y < 2 ^ M) : xorI (x : Int) (y : Int) = ((x ^^^ y : Nat) : Int) := by
  have := pow16N hM
  exact xorI_nat _ _ (by omega) (by omega)

end Go.Proofs.Ytldnhflgpbcmeaa
