/-
  Plain: the sums of a bit's two sides, and the sign of what is told of it.
  Conditions: as each theorem says.
  Contract: the moves of a place, of the program.
  Conditions: a coder of one to four bits of memory and one to four masks; a part as long as the masks are many.
  Contracts: logarithms of states behind and before a place, of the program.
  Conditions: a table of logarithms and a block of moves, of one to sixteen states.
  A region that draws its order, in a round of a loop over a function: walked as outside.
  Conditions: none of its operations is a defer statement.
  Contract: all ways, of the reference: the last part.
  Conditions: lengths at most 1048576.
  Contract: all ways, of the reference: the part backward and what follows.
  Conditions: lengths at most 1048576.
  Contract: all ways, of the reference.
  Conditions: lengths at most 1048576.
  Contract: a row of tables of the call's own turned about.
  Conditions: one to 64 tables.
  Contract: a row of the call's own of tables.
  Conditions: as each theorem says.
-/
import Derived.Test.YtopeidmafalklaaPk05
import Derived.Test.YtopeidmafalklaaPk04
import Derived.StillTail
import Derived.StillTailTactics
import Derived.Deep.RegionLaw
import Derived.Deep.Cut

namespace Go.Proofs.Ytopeidmafalklaa
open Go.RowKit

variable {M n : Nat} {ms : List Int} {soft : List Nat} {hv : Nat → Nat → Bool → Int}
theorem ceilG (v : Int) : ∃ f : Int, (f - 1) * (gG : Int) < v ∧ v ≤ f * (gG : Int) := by
  have hg : (0 : Int) < (gG : Int) := by have := gG_pos; omega
  refine ⟨(v + (gG : Int) - 1) / (gG : Int), ?_, ?_⟩
  · have h1 := Int.mul_ediv_add_emod (v + (gG : Int) - 1) (gG : Int)
    have h2 := Int.emod_nonneg (v + (gG : Int) - 1) (Int.ne_of_gt hg)
    have h3 := Int.emod_lt_of_pos (v + (gG : Int) - 1) hg
    rw [Int.sub_mul, Int.mul_comm]
    omega
  · have h1 := Int.mul_ediv_add_emod (v + (gG : Int) - 1) (gG : Int)
    have h2 := Int.emod_nonneg (v + (gG : Int) - 1) (Int.ne_of_gt hg)
    have h3 := Int.emod_lt_of_pos (v + (gG : Int) - 1) hg
    rw [Int.mul_comm]
    omega
/-- what one state adds to a side -/
theorem side_up (H : HW M n ms soft hv) {i j : Nat} (hij : i + 1 + j = n + M) (hi : i < n) {w : Bool} {Y : Int} (hY2 : Y ≤ 1024 * ((n + M : Nat) : Int)) (hY : ∀ c, Leg n c → c i = w → met M hv 0 c 0 (n + M) ≤ Y) {s : Nat} (hs : s < 2 ^ M) {p y : Option Nat}
    (hp : (fwdT M ms soft n i).getD s none = some p) (hy : (bwdT M ms soft n j).getD (toS M s w) none = some y) :
    (∃ c, Leg n c ∧ c i = w) ∧ Bd (-(1024 * ((n + M : Nat) : Int))) (Y + 45 * (i : Int) + 45 * ((j - M : Nat) : Int)) (fop .add .f32 (fop .add .f32 p (halfO ms (partL ms.length soft i) s w)) y) := by
  have hn5 := H.n5
  have hm3 := H.m3
  obtain ⟨-, ⟨c0, hc0, hcs0⟩, h3⟩ := (PF.tab H i (by omega)).2 s hs p hp
  obtain ⟨⟨d0, hd0, hds0⟩, h4⟩ := BF.tab H j (by omega) _ (toS_lt w) y hy
  have hpl : n + M - j = i + 1 := by omega
  rw [hpl] at hds0 h4
  have hbi : n ≤ i → w = false := fun q => absurd q (by omega)
  have join : ∀ c d, Leg n c → stG M 0 c 0 i = s → Leg n d → ∃ e, Leg n e ∧ e i = w ∧ met M hv 0 e 0 (n + M) = met M hv 0 c 0 i + hv i s w + met M hv (toS M s w) d (i + 1) j := fun c d hc hcs hd => by
    obtain ⟨e, he, he1, -, he3⟩ := path_join (M := M) (iv := hv) (j := j) hc hd hbi hcs
    rw [hij] at he3
    exact ⟨e, he, he1, he3⟩
  obtain ⟨v1, v2⟩ := H.bd i s w (by omega) hs
  have mb : ∀ d, -(1024 * (j : Int)) ≤ met M hv (toS M s w) d (i + 1) j ∧ met M hv (toS M s w) d (i + 1) j ≤ 1024 * (j : Int) := fun d => by
    have := metB_bd H (c := d) (s := toS M s w) (j := j) (toS_lt w) (by omega)
    rw [hpl] at this
    exact this
  have ma : ∀ c, -(1024 * (i : Int)) ≤ met M hv 0 c 0 i ∧ met M hv 0 c 0 i ≤ 1024 * (i : Int) := fun c => met0_bd H (by omega)
  obtain ⟨e0, he0, he01, he02⟩ := join c0 d0 hc0 hcs0 hd0
  refine ⟨⟨e0, he0, he01⟩, ?_⟩
  have hY0 := hY e0 he0 he01
  have hp0 := h3 (1024 * (i : Int)) (Int.le_refl _) fun c _ _ => (ma c).2
  obtain ⟨x, rfl, fx, x1, x2⟩ := hp0
  obtain ⟨f, f1, f2⟩ := ceilG (valF x)
  have hpf : Bd (-(1024 * (i : Int))) f (some x) := ⟨x, rfl, fx, x1, f2⟩
  have hf1 : f - 1 < 1024 * (i : Int) + 45 * (i : Int) + 45 * ((((fun _ => 2 : Nat → Nat) s : Nat) : Int) - 2) := g_lt (Int.lt_of_lt_of_le f1 x2)
  have hfl := hpf.le
  have key : ∀ d, Leg n d → stG M (toS M s w) d (i + 1) j = 0 → met M hv (toS M s w) d (i + 1) j ≤ min (Y - hv i s w + 45 * (i : Int) - f) (1024 * (j : Int)) := fun d hd hds => by
    have h5 := h3 (min (Y - hv i s w - met M hv (toS M s w) d (i + 1) j) (1024 * (i : Int))) (by omega) fun c hc hcs => by
      obtain ⟨e, he, he1, he2⟩ := join c d hc hcs hd
      have h6 := hY e he he1
      have h7 := ma c
      omega
    obtain ⟨x', ex, -, -, x3⟩ := h5
    cases ex
    have h8 := g_lt (Int.lt_of_lt_of_le f1 x3)
    dsimp only at h8
    have h9 := mb d
    omega
  have hk0 := key d0 hd0 hds0
  have hm0 := mb d0
  have hy1 := h4 (min (Y - hv i s w + 45 * (i : Int) - f) (1024 * (j : Int))) (by omega) key
  dsimp only at hf1
  have a1 := hpf.add (H.val i s w (by omega) hs) (by omega) (by omega)
  have a2 := a1.add hy1 (by omega) (by omega)
  exact a2.mono (by push_cast; omega) (by omega)
theorem sum_up (H : HW M n ms soft hv) {i j : Nat} (hij : i + 1 + j = n + M) (hi : i < n) {w : Bool} {Y : Int} (hY2 : Y ≤ 1024 * ((n + M : Nat) : Int)) (hY : ∀ c, Leg n c → c i = w → met M hv 0 c 0 (n + M) ≤ Y) :
    ∀ r, r ≤ 2 ^ M → ∀ q, sumR M ms (partL ms.length soft i) (fwdT M ms soft n i) (bwdT M ms soft n j) w r = some q → 1 ≤ r ∧ (∃ c, Leg n c ∧ c i = w) ∧ Bd (-(1024 * ((n + M : Nat) : Int))) (Y + 45 * (i : Int) + 45 * ((j - M : Nat) : Int) + 45 * ((r : Int) - 1)) q
  | 0, _, q, h => nomatch h
  | r + 1, hr, q, h => by
    have hn5 := H.n5
    have hm3 := H.m3
    have hp8 : 2 ^ M ≤ 8 := Nat.le_trans (Nat.pow_le_pow_right (by decide) hm3) (by decide)
    have ih := sum_up H hij hi hY2 hY r (by omega)
    have h : sumX ((fwdT M ms soft n i).getD r none) ((bwdT M ms soft n j).getD (toS M r w) none) (halfO ms (partL ms.length soft i) r w) (sumR M ms (partL ms.length soft i) (fwdT M ms soft n i) (bwdT M ms soft n j) w r) = some q := h
    cases hp : (fwdT M ms soft n i).getD r none with
    | none =>
      rw [hp, sumX_none1] at h
      obtain ⟨k1, k2, k3⟩ := ih q h
      exact ⟨by omega, k2, k3.mono (Int.le_refl _) (by push_cast; omega)⟩
    | some p =>
      cases hy : (bwdT M ms soft n j).getD (toS M r w) none with
      | none =>
        rw [hy, sumX_none2] at h
        obtain ⟨k1, k2, k3⟩ := ih q h
        exact ⟨by omega, k2, k3.mono (Int.le_refl _) (by push_cast; omega)⟩
      | some y =>
        obtain ⟨k1, k2⟩ := side_up H hij hi hY2 hY (by omega) hp hy
        rw [hp, hy] at h
        cases hu : sumR M ms (partL ms.length soft i) (fwdT M ms soft n i) (bwdT M ms soft n j) w r with
        | none =>
          rw [hu] at h
          cases h
          exact ⟨by omega, k1, k2.mono (Int.le_refl _) (by push_cast; omega)⟩
        | some u =>
          rw [hu] at h
          cases h
          obtain ⟨m1, -, m3⟩ := ih u hu
          refine ⟨by omega, k1, ?_⟩
          have hl := k2.le
          have hl2 := m3.le
          exact (m3.join k2 (by push_cast at *; omega)).mono (by omega) (by push_cast; omega)
theorem sum_low (H : HW M n ms soft hv) {i j : Nat} (hij : i + 1 + j = n + M) (hi : i < n) {c : Nat → Bool} (hc : Leg n c) :
    ∀ r, r ≤ 2 ^ M → stG M 0 c 0 i < r → ∃ q u, sumR M ms (partL ms.length soft i) (fwdT M ms soft n i) (bwdT M ms soft n j) (c i) r = some q ∧ Bd (met M hv 0 c 0 (n + M)) u q
  | 0, _, h => absurd h (Nat.not_lt_zero _)
  | r + 1, hr, hsr => by
    have hn5 := H.n5
    have hm3 := H.m3
    have hp8 : 2 ^ M ≤ 8 := Nat.le_trans (Nat.pow_le_pow_right (by decide) hm3) (by decide)
    have hall : ∀ d, Leg n d → d i = c i → met M hv 0 d 0 (n + M) ≤ 1024 * ((n + M : Nat) : Int) := fun d _ _ => (met0_bd H (Nat.le_refl _)).2
    have up := sum_up H hij hi (Int.le_refl _) hall r (by omega)
    show ∃ q u, sumX ((fwdT M ms soft n i).getD r none) ((bwdT M ms soft n j).getD (toS M r (c i)) none) (halfO ms (partL ms.length soft i) r (c i)) (sumR M ms (partL ms.length soft i) (fwdT M ms soft n i) (bwdT M ms soft n j) (c i) r) = some q ∧ _
    by_cases e : stG M 0 c 0 i = r
    · have hrs : r < 2 ^ M := by omega
      obtain ⟨p, u1, hp, hpb⟩ := PL.tab H hc i (by omega)
      have hend := st_end hc (M := M) (by omega)
      have hspl : n + M - j = i + 1 := by omega
      have hst : stG M (toS M r (c i)) c (i + 1) j = 0 := by
        have := stG_add (M := M) (s0 := 0) (c := c) (p := 0) (a := i + 1) j
        rw [hij, hend, stG_succ, Nat.zero_add, Nat.zero_add, e] at this
        exact this.symm
      obtain ⟨y, u2, hy, hyb⟩ := BL.tab H hc j (by omega) (toS M r (c i)) (toS_lt _) (by rw [hspl]; exact hst)
      rw [hspl] at hyb
      have hmet : met M hv 0 c 0 (n + M) = met M hv 0 c 0 i + hv i r (c i) + met M hv (toS M r (c i)) c (i + 1) j := by
        have := met_add (M := M) (iv := hv) (s0 := 0) (c := c) (p := 0) (a := i + 1) j
        rw [hij, met_succ, stG_succ, Nat.zero_add, Nat.zero_add, e] at this
        exact this
      rw [e] at hp
      obtain ⟨k1, k2⟩ := side_up H hij hi (Int.le_refl _) hall hrs hp hy
      obtain ⟨-, -, h3⟩ := (PF.tab H i (by omega)).2 r hrs p hp
      have hp2 := (h3 (1024 * (i : Int)) (Int.le_refl _) fun d _ _ => (met0_bd H (c := d) (by omega)).2).both hpb
      obtain ⟨-, h4⟩ := BF.tab H j (by omega) _ (toS_lt (c i)) y hy
      have hy2 := (h4 (1024 * (j : Int)) (Int.le_refl _) fun d _ _ => (metB_bd H (c := d) (toS_lt (c i)) (by omega)).2).both hyb
      obtain ⟨v1, v2⟩ := H.bd i r (c i) (by omega) hrs
      have ma := met0_bd H (c := c) (t := i) (by omega)
      have mb := metB_bd H (c := c) (s := toS M r (c i)) (j := j) (toS_lt _) (by omega)
      rw [hspl] at mb
      have l1 := hp2.le
      have l2 := hy2.le
      dsimp only at l1 hp2
      have a1 := hp2.add (H.val i r (c i) (by omega) hrs) (by omega) (by omega)
      have a2 := a1.add hy2 (by omega) (by omega)
      rw [← hmet] at a2
      have a3 := k2.both a2
      rw [hp, hy]
      cases hu : sumR M ms (partL ms.length soft i) (fwdT M ms soft n i) (bwdT M ms soft n j) (c i) r with
      | none => exact ⟨_, _, rfl, a3⟩
      | some u =>
        obtain ⟨m1, -, m3⟩ := up u hu
        exact ⟨_, _, rfl, (m3.join a3 (by push_cast at *; omega)).mono (Int.le_max_right _ _) (Int.le_refl _)⟩
    · obtain ⟨q, u, hq, hqb⟩ := sum_low H hij hi hc r (by omega) (by omega)
      rw [hq]
      cases hp : (fwdT M ms soft n i).getD r none with
      | none => rw [sumX_none1]; exact ⟨q, u, rfl, hqb⟩
      | some p =>
        cases hy : (bwdT M ms soft n j).getD (toS M r (c i)) none with
        | none => rw [sumX_none2]; exact ⟨q, u, rfl, hqb⟩
        | some y =>
          obtain ⟨-, k2⟩ := side_up H hij hi (Int.le_refl _) hall (by omega) hp hy
          obtain ⟨m1, -, m3⟩ := up q hq
          exact ⟨_, _, rfl, ((m3.both hqb).join k2 (by push_cast at *; omega)).mono (Int.le_max_left _ _) (Int.le_refl _)⟩
/-- both sides of a bit -/
theorem sides (H : HW M n ms soft hv) {i : Nat} (hi : i < n) {c : Nat → Bool} (hc : Leg n c) (hbest : ∀ d, Leg n d → d i ≠ c i → met M hv 0 d 0 (n + M) ≤ met M hv 0 c 0 (n + M) - 512) :
    ∃ q0 q1, sumT M ms soft n i false = some q0 ∧ sumT M ms soft n i true = some q1 ∧ if c i then Bd 1 33554431 (fop .sub .f32 q1 q0) else Bd (-33554431) (-1) (fop .sub .f32 q1 q0) := by
  have hn5 := H.n5
  have hm3 := H.m3
  have hp8 : 2 ^ M ≤ 8 := Nat.le_trans (Nat.pow_le_pow_right (by decide) hm3) (by decide)
  have hij : i + 1 + (n + M - (i + 1)) = n + M := by omega
  obtain ⟨R, uR, hR, hRb⟩ := sum_low H hij hi hc (2 ^ M) (Nat.le_refl _) (stG_lt (Nat.pow_pos (by decide)) i)
  have hd : Leg n fun k => if k = i then !(c i) else c k := fun k hk => by
    simp only []
    rw [if_neg (by omega)]
    exact hc k hk
  obtain ⟨W, uW, hW, hWb⟩ := sum_low H hij hi hd (2 ^ M) (Nat.le_refl _) (stG_lt (Nat.pow_pos (by decide)) i)
  simp only [↓reduceIte] at hW
  have hmc := met0_bd H (c := c) (t := n + M) (Nat.le_refl _)
  have hall : ∀ d, Leg n d → d i = c i → met M hv 0 d 0 (n + M) ≤ 1024 * ((n + M : Nat) : Int) := fun d _ _ => (met0_bd H (Nat.le_refl _)).2
  obtain ⟨-, -, hRu⟩ := sum_up H hij hi (Int.le_refl _) hall (2 ^ M) (Nat.le_refl _) R hR
  obtain ⟨-, -, hWu⟩ := sum_up H hij hi (w := !(c i)) (Y := met M hv 0 c 0 (n + M) - 512) (by omega) (fun d hd hdi => hbest d hd (by rw [hdi]; cases c i <;> decide)) (2 ^ M) (Nat.le_refl _) W hW
  have hR2 := hRu.both hRb
  have l1 := hR2.le
  have l2 := hWu.le
  have hjM : ((n + M - (i + 1) - M : Nat) : Int) = (n : Int) - 1 - (i : Int) := by omega
  have hpI : ((2 ^ M : Nat) : Int) ≤ 8 := by omega
  rw [hjM] at hR2 hWu l1 l2
  obtain ⟨P, hP⟩ : ∃ P : Int, ((2 ^ M : Nat) : Int) = P := ⟨_, rfl⟩
  rw [hP] at hR2 hWu l1 l2 hpI
  unfold sumT
  cases hci : c i with
  | true =>
    rw [hci] at hR hW
    refine ⟨W, R, hW, hR, ?_⟩
    rw [if_pos rfl]
    exact (hR2.sub hWu (by push_cast at *; omega) (by push_cast at *; omega)).mono (by omega) (by push_cast at *; omega)
  | false =>
    rw [hci] at hR hW
    refine ⟨R, W, hR, hW, ?_⟩
    rw [if_neg (by simp)]
    exact (hWu.sub hR2 (by push_cast at *; omega) (by push_cast at *; omega)).mono (by push_cast at *; omega) (by omega)
/-- what is told is told of each bit, with its sign -/
theorem outs (H : HW M n ms soft hv) {c : Nat → Bool} (hc : Leg n c) (hbest : ∀ i d, i < n → Leg n d → d i ≠ c i → met M hv 0 d 0 (n + M) ≤ met M hv 0 c 0 (n + M) - 512) :
    ∀ t, t ≤ n → ∃ l, outT M ms soft n t = some l ∧ l.length = t ∧ ∀ i, i < t → if c i then Bd 1 33554431 (l.getD i none) else Bd (-33554431) (-1) (l.getD i none)
  | 0, _ => ⟨[], rfl, rfl, fun i hi => absurd hi (Nat.not_lt_zero _)⟩
  | t + 1, ht => by
    obtain ⟨l, h1, h2, h3⟩ := outs H hc hbest t (by omega)
    obtain ⟨q0, q1, k0, k1, k2⟩ := sides H (i := t) (by omega) hc (fun d => hbest t d (by omega))
    refine ⟨l ++ [fop .sub .f32 q1 q0], outT_step h1 k0 k1, by simp [h2], fun i hi => ?_⟩
    by_cases q : i < t
    · rw [show (l ++ [fop .sub .f32 q1 q0]).getD i none = l.getD i none by simp only [List.getD, List.getElem?_append_left (show i < l.length by omega)]]
      exact h3 i q
    · obtain rfl : i = t := by omega
      rw [show (l ++ [fop .sub .f32 q1 q0]).getD i none = fop .sub .f32 q1 q0 by rw [← h2]; simp [List.getD]]
      exact k2

end Go.Proofs.Ytopeidmafalklaa


namespace Go.Proofs.Ytopeidmafalklaa
open Go.RowKit Go.Shelf

/-- laid are the states before s, and of s so many bits -/
def dn (s j : Nat) (s' : Nat) (c : Bool) : Bool := decide (s' < s) || (decide (s' = s) && decide (bN c < j))
theorem dn_next (s : Nat) (s' : Nat) (c : Bool) : dn s 2 s' c = dn (s + 1) 0 s' c := by
  have hb : bN c ≤ 1 := by cases c <;> decide
  unfold dn
  by_cases h : s' < s
  · rw [decide_eq_true h, decide_eq_true (show s' < s + 1 by omega)]; rfl
  · by_cases h2 : s' = s
    · rw [decide_eq_false h, decide_eq_true h2, decide_eq_true (show bN c < 2 by omega), decide_eq_true (show s' < s + 1 by omega)]; rfl
    · rw [decide_eq_false h, decide_eq_false h2, decide_eq_false (show ¬ s' < s + 1 by omega)]; simp
theorem dn_zero (s' : Nat) (c : Bool) : dn 0 0 s' c = false := by unfold dn; simp
theorem dn_at (s : Nat) (c : Bool) : dn s (bN c) s c = false := by unfold dn; simp
theorem dn_put (s : Nat) (c : Bool) : dn s (bN c + 1) s c = true := by unfold dn; simp
theorem dn_else (s : Nat) (c : Bool) (s' : Nat) (c' : Bool) (h : s' ≠ s ∨ c' ≠ c) : dn s (bN c + 1) s' c' = dn s (bN c) s' c' := by
  unfold dn
  rcases h with h | h
  · rw [decide_eq_false h]; simp
  · have hb : bN c' ≠ bN c := by cases c <;> cases c' <;> first | exact absurd rfl h | decide
    have : decide (bN c' < bN c + 1) = decide (bN c' < bN c) := decide_eq_decide.2 (by omega)
    rw [this]
theorem dn_all {S s' : Nat} (h : s' < S) (c : Bool) : dn S 0 s' c = true := by unfold dn; rw [decide_eq_true h]; rfl
theorem MRow.congr {M : Nat} {ms : List Int} {part : List Nat} {last : Bool} {done done' : Nat → Bool → Bool} {W : World} {b S : Nat} (h : MRow M ms part last done W b S) (hd : ∀ s c, s < S → done' s c = done s c) : MRow M ms part last done' W b S := by
  obtain ⟨cs, hO, h2, h3⟩ := h
  exact ⟨cs, hO, h2, fun s hs c => by rw [hd s c hs]; exact h3 s hs c⟩
/-- where the bit's move is not to be laid -/
theorem MRow.skip {M : Nat} {ms : List Int} {part : List Nat} {done done' : Nat → Bool → Bool} {W : World} {b S : Nat} (h : MRow M ms part true done W b S) (hd : ∀ s c, s < S → c = false → done' s c = done s c) : MRow M ms part true done' W b S := by
  obtain ⟨cs, hO, h2, h3⟩ := h
  refine ⟨cs, hO, h2, fun s hs c => ?_⟩
  have h4 := h3 s hs c
  cases c
  · rw [hd s false hs rfl]; exact h4
  · unfold MvC at h4 ⊢
    simpa using h4


set_option maxRecDepth 100000 in
set_option maxHeartbeats 4000000 in
theorem impl_moves_c (w : World) (M : Nat) (hM1 : 1 ≤ M) (hM4 : M ≤ 4) (A : Option Addr) (k cap : Nat) (ms : List Int) (hl : ms.length = k) (hk1 : 1 ≤ k) (hk4 : k ≤ 4) (hr : ∀ x ∈ ms, 0 ≤ x ∧ x ≤ 31) (hx : Sl w w.heap.size A (ms.map (Value.int .i64)))
    (A2 : Option Addr) (cap2 : Nat) (pt : List Nat) (hp : pt.length = k) (hy : Sl w w.heap.size A2 (pt.map (Value.float .f32))) (last : Bool) :
    Calls Try.prog 44 #[.agg #[.int .i64 (M : Int), .slice A k cap], .slice A2 k cap2, .bool last] w fun e w' => ∃ b, e = .returned (.slice (some ⟨b, 0, none⟩) (2 ^ M) (2 ^ M)) ∧ w.heap.size ≤ b ∧ MRow M ms pt last (fun _ _ => true) w' b (2 ^ M) ∧ Below w.heap.size w w' := by
  obtain ⟨S, hS⟩ : ∃ S : Nat, 2 ^ M = S := ⟨_, rfl⟩
  have hSI : (2 : Int) ^ M = (S : Int) := by rw [← hS]; push_cast; rfl
  have hS16 : S ≤ 16 := by rw [← hS]; exact Nat.pow_le_pow_right (n := 2) (by decide) hM4
  have hS1 : 1 ≤ S := by rw [← hS]; exact Nat.pow_pos (by decide)
  have hst := fun W : World => impl_states_c W M hM1 hM4 A k cap
  rw [hSI] at hst
  have hmk := fun W : World => run_mkMove S (by omega) .i64 .i64 W
  obtain ⟨w1, e1⟩ : ∃ q : World, q = w.alloc (.cells #[.int .i64 (M : Int), .slice A k cap] 29) := ⟨_, rfl⟩
  have b1 : Below w.heap.size w w1 := by rw [e1]; exact (Below.refl _ _).alloc (Nat.le_refl _) _
  have z1 : w1.heap.size = w.heap.size + 1 := by rw [e1]; simp
  have hO : Obj w1 w.heap.size 29 #[.int .i64 (M : Int), .slice A k cap] := by rw [e1]; exact Obj.new _ _ _
  have hsz := hO.lt
  obtain ⟨⟨C0, C1⟩, -⟩ := hO.two
  rw [hS]
  have HS := Lib.hid hS
  have HSI := Lib.hid hSI
  have HST := Lib.hid hst
  have HO := Lib.hid hO
  have HX := Lib.hid hx
  have HY := Lib.hid hy
  have HSW : Hid (∀ (W : World) (s b : Int), Below w.heap.size w W → 0 ≤ s → s ≤ 15 → 0 ≤ b → b ≤ 1 → Calls Try.prog 58 #[.agg #[.int .i64 (M : Int), .slice A k cap], .int .i64 s, .int .i64 b] W fun e w' => ∃ v, e = .returned (.tuple #[v, .int .i64 ((2 * s + b) % 2 ^ M)]) ∧ Ow w' W.heap.size 4 v ((sentL ms (2 * s + b)).map Value.bool) ∧ Below W.heap.size W w') :=
    Lib.hid fun W s b hb h0 h1 h2 h3 => impl_send_c W M hM1 hM4 A k cap ms hl hk4 hr ((hx.below hb).more hb.size) s b h0 h1 h2 h3
  clear hx hy hO hS hSI hst
  go_enter Try.func44, Try.ntmps44
  go_wp2_with (first
    | (rw [← e1]; clear e1))
  refine (HST.out w1).mono ?_
  rintro e w2 ⟨rfl, hb2⟩
  have B2 : Below w.heap.size w w2 := b1.trans (hb2.mono b1.size)
  have z2 := hb2.size
  have O2 := HO.out.below hb2 hsz
  obtain ⟨⟨D0, D1⟩, -⟩ := O2.two
  obtain ⟨w3, e3⟩ : ∃ q : World, q = w2.alloc (.cells (madeCells #[Value.bool false, .int .i64 0, .float .f32 0, .bool false, .int .i64 0, .float .f32 0] (S * 6)) 94) := ⟨_, rfl⟩
  have R3 : MRow M ms pt last (fun _ _ => false) w3 w2.heap.size S := by rw [e3]; exact MRow.new M ms pt last w2 S
  have B3 : Below w.heap.size w w3 := by rw [e3]; exact B2.alloc B2.size _
  have O3 : Obj w3 w.heap.size 29 #[.int .i64 (M : Int), .slice A k cap] := by rw [e3]; exact O2.alloc _
  obtain ⟨⟨E0, E1⟩, -⟩ := O3.two
  have z3 : w2.heap.size + 1 ≤ w3.heap.size := by rw [e3]; simp
  have b23 : Below w2.heap.size w2 w3 := by rw [e3]; exact (Below.refl _ _).alloc (Nat.le_refl _) _
  have HO2 := Lib.hid O2
  have HR3 := Lib.hid R3
  have HO3 := Lib.hid O3
  clear O2 O3 R3 C0 C1
  go_wp2_with (rw [← e3]; clear e3)
  refine (HST.out w3).mono ?_
  rintro e w4 ⟨rfl, hb4⟩
  have B4 : Below w.heap.size w w4 := B3.trans (hb4.mono B3.size)
  have z4 := hb4.size
  have R4 := HR3.out.below hb4 z3
  have O4 := HO3.out.below hb4 (by omega)
  have HR4 := Lib.hid R4
  have HO4 := Lib.hid O4
  have hbw2 := B2.size
  have HB4 := Lib.hid (show Below w2.heap.size w2 w4 from b23.trans (hb4.mono (by omega)))
  clear E0 E1 D0 D1 R4 O4
  clear hmk
  go_wp2
  go_loopw [17] (fun i wr => ∃ s : Nat, s ≤ S ∧ i = .int .i64 s ∧ MRow M ms pt last (dn s 0) wr w2.heap.size S ∧ Below w2.heap.size w2 wr) (fun i _ => S - (intOf i).toNat)
  case atStart => exact ⟨0, Nat.zero_le _, rfl, HR4.out.congr (fun s c _ => by rw [dn_zero]), (show Below w2.heap.size w2 w4 from HB4.out)⟩
  case round =>
    clear b1 z1 z2 z4 hsz
    obtain ⟨s, hs, rfl, hmr, hbr⟩ := hrel
    obtain ⟨wA, rfl⟩ : ∃ q : World, q = wr := ⟨_, rfl⟩
    by_cases hlt : s < S
    · have HMR := Lib.hid hmr
      clear hmr
      go_wp2
      go_loopw [20] (fun i wr => ∃ j : Nat, j ≤ 2 ∧ i = .int .i64 j ∧ MRow M ms pt last (dn s j) wr w2.heap.size S ∧ Below w2.heap.size w2 wr) (fun i _ => 2 - (intOf i).toNat)
      case atStart => exact ⟨0, by omega, rfl, HMR.out, hbr⟩
      case round =>
        clear HMR hbr
        obtain ⟨j, hj, rfl, hmr, hbr⟩ := hrel
        obtain ⟨wF, rfl⟩ : ∃ q : World, q = wr := ⟨_, rfl⟩
        by_cases hj2 : j < 2
        · obtain ⟨c, rfl⟩ : ∃ c : Bool, j = bN c := by
            rcases (show j = 0 ∨ j = 1 by omega) with rfl | rfl
            · exact ⟨false, rfl⟩
            · exact ⟨true, rfl⟩
          obtain ⟨jj, hjj⟩ : ∃ jj, bN c = jj := ⟨_, rfl⟩
          have hcb : ((jj : Nat) : Int) = bitI c := by rw [← hjj]; exact bN_bit c
          have hje : ((jj : Int) == 1) = c := by rw [hcb]; cases c <;> rfl
          have hj1 : jj ≤ 1 := by omega
          have HMR := Lib.hid hmr
          have HCB := Lib.hid hcb
          rw [hjj] at HMR ⊢
          clear hmr hcb hj hj2
          by_cases hskip : (c && last) = true
          · obtain ⟨rfl, rfl⟩ : c = true ∧ last = true := by simpa using hskip
            have HJJ := Lib.hid hjj
            clear hskip hjj
            go_wp2
            go_roundw
            case rel =>
              refine ⟨jj + 1, by omega, by go_num, HMR.out.skip fun s' c' _ hc' => ?_, hbr⟩
              subst hc'
              have h1 := HJJ.out
              rw [← h1]
              exact dn_else s true s' false (.inr (by decide))
            case measure => simp [intOf]; omega
          · have hcl : (c && last) = false := by simpa using hskip
            have OF := HO2.out.below hbr HO2.out.lt
            obtain ⟨⟨D0, D1⟩, -⟩ := OF.two
            have hbwF : Below w.heap.size w wF := B2.trans (hbr.mono hbw2)
            obtain ⟨to, eto⟩ : ∃ to, toS M s c = to := ⟨_, rfl⟩
            have hto : to < S := by rw [← eto, ← HS.out]; exact toS_lt c
            have htv : (2 * (s : Int) + (jj : Int)) % 2 ^ M = (to : Int) := by rw [HCB.out, ← eto]; exact toS_eq M s c
            have hsx : sentL ms (2 * (s : Int) + (jj : Int)) = sentL ms (2 * (s : Int) + bitI c) := by rw [HCB.out]
            have HTV := Lib.hid htv
            have HSX := Lib.hid hsx
            have HTO := Lib.hid eto
            have HCL := Lib.hid hcl
            have hOF := Lib.hid OF
            have hs15 : s ≤ 15 := by omega
            have HJJ := Lib.hid hjj
            have hcl2 : c = true → last = false := by rintro rfl; simpa using hcl
            clear htv hsx eto hcl hskip OF hjj
            have hlast : c = false ∨ (c = true ∧ last = false) := by
              cases c
              · exact .inl rfl
              · exact .inr ⟨rfl, hcl2 rfl⟩
            clear hcl2
            have hcall := HSW.out wF (s : Int) (jj : Int) hbwF (by omega) (by omega) (by omega) (by omega)
            have HCALL := Lib.hid hcall
            clear hcall
            rcases hlast with rfl | ⟨rfl, rfl⟩
            all_goals go_wp2_with fail
            all_goals refine HCALL.out.mono ?_
            all_goals rintro e wG ⟨v, rfl, hoG, hbG⟩
            all_goals rw [HTV.out]
            all_goals rw [HSX.out] at hoG
            all_goals obtain ⟨S3, q3, rfl, hp3⟩ := hoG.opn
            all_goals go_wp2_with fail
            · refine wp_region_rel_lit_tail (fun _ _ v => ∃ x, v = .float .f32 x ∧ fl .f32 x = gainO (some 0) (sentL ms (2 * (s : Int) + bitI false)) pt ms.length) 11 (by kernel_rfl) (by kernel_rfl) ?_
              simp only [List.take_succ_cons, List.take_zero, List.drop_succ_cons, List.drop_zero]
              iterate 6 (refine wpRel_step (fun K hK => ?_); go_simp; (try intro n1); refine hK _ ?_; clear hK K)
              refine wpRel_step (fun K hK => ?_)
              go_simp
              intro n2
              refine ⟨calls_rel0 ((impl_gain_c (wG.drewN n2) 0 wG.heap.size w.heap.size S3 _ q3 (sentL ms (2 * (s : Int) + bitI false)) rfl (by rw [sentL_len]; omega) (sl_of_own hp3) A2 k cap2 pt hp (by rw [sentL_len]; omega) (by omega) (((HY.out.below hbwF).below (hbG.mono hbwF.size)).drewN _)).mono fun e w' ⟨x, h1, h2, h3⟩ => ⟨⟨_, h1, x, rfl, by rw [h2, sentL_len, fl0, hl]⟩, h3⟩), fun v x hv hx => ?_⟩
              subst hv
              refine hK _ ?_
              clear hK K
              have HXX := Lib.hid hx
              clear hx
              iterate 4 (refine wpRel_step (fun K hK => ?_); go_simp; (try intro n1); refine hK _ ?_; clear hK K)
              refine wpRel_nil ?_
              intro nq
              have HMG := HMR.out.below hbG HMR.out.lt
              have hJ := HJJ.out
              have hdn : dn s jj s false = false := by rw [← hJ]; exact dn_at s false
              obtain ⟨k1, k2, k3⟩ := HMG.old hlt (c := false) (by rw [hdn]; rfl)
              have z1 := HMG.frz (s * 6 + bN false * 3)
              have z2 := HMG.frz (s * 6 + bN false * 3 + 1)
              have z3 := HMG.frz (s * 6 + bN false * 3 + 1 + 1)
              rw [hJ] at k1 k2 k3 z1 z2 z3
              have HMG := Lib.hid HMG
              go_wp2
              go_roundw
              case rel =>
                have hput := MRow.put (W := wG.drewN nq) (done' := dn s (jj + 1)) (show MRow M ms pt _ (dn s jj) (wG.drewN nq) w2.heap.size S from HMG.out) hlt (c := false) (by rfl) (x := fres .quo .f32 x 1073741824 wG.tape (wG.drewN n1).drawn) (by rw [fl_fres, HXX.out, show fl .f32 1073741824 = some 1073741824 by decide, half_eqO, ← hl]; rfl) (by rw [← hJ]; exact dn_put s false) (fun s' c' _ h => by rw [← hJ]; exact dn_else s false s' c' h)
                rw [hJ, HTO.out] at hput
                refine ⟨jj + 1, by omega, by go_num, hput, ?_⟩
                exact Below.setCell (p := ⟨w2.heap.size, s * 6 + jj * 3 + 2, none⟩) (Below.setCell (p := ⟨w2.heap.size, s * 6 + jj * 3 + 1, none⟩) (Below.setCell (p := ⟨w2.heap.size, s * 6 + jj * 3, none⟩) (below_drewN (hbr.trans (hbG.mono hbr.size)) _) (Nat.le_refl _) _) (Nat.le_refl _) _) (Nat.le_refl _) _
              case measure => simp [intOf]; omega
            · refine wp_region_rel_lit_tail (fun _ _ v => ∃ x, v = .float .f32 x ∧ fl .f32 x = gainO (some 0) (sentL ms (2 * (s : Int) + bitI true)) pt ms.length) 11 (by kernel_rfl) (by kernel_rfl) ?_
              simp only [List.take_succ_cons, List.take_zero, List.drop_succ_cons, List.drop_zero]
              iterate 6 (refine wpRel_step (fun K hK => ?_); go_simp; (try intro n1); refine hK _ ?_; clear hK K)
              refine wpRel_step (fun K hK => ?_)
              go_simp
              intro n2
              refine ⟨calls_rel0 ((impl_gain_c (wG.drewN n2) 0 wG.heap.size w.heap.size S3 _ q3 (sentL ms (2 * (s : Int) + bitI true)) rfl (by rw [sentL_len]; omega) (sl_of_own hp3) A2 k cap2 pt hp (by rw [sentL_len]; omega) (by omega) (((HY.out.below hbwF).below (hbG.mono hbwF.size)).drewN _)).mono fun e w' ⟨x, h1, h2, h3⟩ => ⟨⟨_, h1, x, rfl, by rw [h2, sentL_len, fl0, hl]⟩, h3⟩), fun v x hv hx => ?_⟩
              subst hv
              refine hK _ ?_
              clear hK K
              have HXX := Lib.hid hx
              clear hx
              iterate 4 (refine wpRel_step (fun K hK => ?_); go_simp; (try intro n1); refine hK _ ?_; clear hK K)
              refine wpRel_nil ?_
              intro nq
              have HMG := HMR.out.below hbG HMR.out.lt
              have hJ := HJJ.out
              have hdn : dn s jj s true = false := by rw [← hJ]; exact dn_at s true
              obtain ⟨k1, k2, k3⟩ := HMG.old hlt (c := true) (by rw [hdn]; rfl)
              have z1 := HMG.frz (s * 6 + bN true * 3)
              have z2 := HMG.frz (s * 6 + bN true * 3 + 1)
              have z3 := HMG.frz (s * 6 + bN true * 3 + 1 + 1)
              rw [hJ] at k1 k2 k3 z1 z2 z3
              have HMG := Lib.hid HMG
              go_wp2
              go_roundw
              case rel =>
                have hput := MRow.put (W := wG.drewN nq) (done' := dn s (jj + 1)) (show MRow M ms pt _ (dn s jj) (wG.drewN nq) w2.heap.size S from HMG.out) hlt (c := true) (by rfl) (x := fres .quo .f32 x 1073741824 wG.tape (wG.drewN n1).drawn) (by rw [fl_fres, HXX.out, show fl .f32 1073741824 = some 1073741824 by decide, half_eqO, ← hl]; rfl) (by rw [← hJ]; exact dn_put s true) (fun s' c' _ h => by rw [← hJ]; exact dn_else s true s' c' h)
                rw [hJ, HTO.out] at hput
                refine ⟨jj + 1, by omega, by go_num, hput, ?_⟩
                exact Below.setCell (p := ⟨w2.heap.size, s * 6 + jj * 3 + 2, none⟩) (Below.setCell (p := ⟨w2.heap.size, s * 6 + jj * 3 + 1, none⟩) (Below.setCell (p := ⟨w2.heap.size, s * 6 + jj * 3, none⟩) (below_drewN (hbr.trans (hbG.mono hbr.size)) _) (Nat.le_refl _) _) (Nat.le_refl _) _) (Nat.le_refl _) _
              case measure => simp [intOf]; omega
        · obtain rfl : j = 2 := by omega
          have HMR := Lib.hid hmr
          clear hmr
          go_wp2
          go_roundw
          case rel => exact ⟨s + 1, by omega, by go_num, HMR.out.congr (fun s' c' _ => (dn_next s s' c').symm), hbr⟩
          case measure => simp [intOf]; omega
    · obtain rfl : s = S := by omega
      have HMR := Lib.hid hmr
      clear hmr
      go_wp2
      go_ret
      exact ⟨_, rfl, hbw2, HMR.out.congr (fun s' c' h => (dn_all h c').symm), B2.trans (hbr.mono hbw2)⟩

end Go.Proofs.Ytopeidmafalklaa


namespace Go.Proofs.Ytopeidmafalklaa
open Go.RowKit Go.Shelf

/-- a slice of a block with a table -/
theorem MRow.yes {M : Nat} {ms : List Int} {part : List Nat} {last : Bool} {W : World} {b S : Nat} (h : MRow M ms part last (fun _ _ => true) W b S) {s : Nat} (hs : s < S) :
    ∃ (x0 : Nat) (h1 : Bool) (to1 : Int) (x1 : Nat), W.cell? ⟨b, s * 6, none⟩ = some (.bool true) ∧ W.cell? ⟨b, s * 6 + 1, none⟩ = some (.int .i64 (toS M s false : Nat)) ∧ W.cell? ⟨b, s * 6 + 2, none⟩ = some (.float .f32 x0) ∧ fl .f32 x0 = halfO ms part s false ∧
      W.cell? ⟨b, s * 6 + 3, none⟩ = some (.bool h1) ∧ W.cell? ⟨b, s * 6 + 4, none⟩ = some (.int .i64 to1) ∧ W.cell? ⟨b, s * 6 + 5, none⟩ = some (.float .f32 x1) ∧ h1 = !last ∧ (last = false → to1 = (toS M s true : Nat) ∧ fl .f32 x1 = halfO ms part s true) := by
  obtain ⟨cs, hO, _, h2⟩ := h
  have h3 := h2 s hs false
  have h4 := h2 s hs true
  unfold MvC at h3 h4
  rw [if_pos (by simp)] at h3
  obtain ⟨x0, a0, a1, a2, a3⟩ := h3
  cases last
  · rw [if_pos (show (true && !(true && false)) = true from rfl)] at h4
    obtain ⟨x1, b0, b1, b2, b3⟩ := h4
    exact ⟨x0, true, _, x1, (hO.cell _).trans a0, (hO.cell _).trans a1, (hO.cell _).trans a2, a3, (hO.cell _).trans b0, (hO.cell _).trans b1, (hO.cell _).trans b2, rfl, fun _ => ⟨rfl, b3⟩⟩
  · rw [if_neg (show ¬ (true && !(true && true)) = true by decide)] at h4
    exact ⟨x0, false, _, 0, (hO.cell _).trans a0, (hO.cell _).trans a1, (hO.cell _).trans a2, a3, (hO.cell _).trans h4.1, (hO.cell _).trans h4.2.1, (hO.cell _).trans h4.2.2, rfl, fun h => nomatch h⟩
/-- the table within a state: behind so many bits -/
def fbT (M : Nat) (ms : List Int) (part : List Nat) (last : Bool) (a : List St) (s : Nat) : Nat → List St
  | 0 => fwdR M ms part last a s
  | 1 => fwdE M ms part last a s false (fwdR M ms part last a s)
  | _ + 2 => fwdR M ms part last a (s + 1)
theorem fbT_step {M : Nat} {ms : List Int} {part : List Nat} {last : Bool} {a : List St} {s : Nat} (c : Bool) : fbT M ms part last a s (bN c + 1) = fwdE M ms part last a s c (fbT M ms part last a s (bN c)) := by cases c <;> rfl
def bbT (M : Nat) (ms : List Int) (part : List Nat) (last : Bool) (a : List St) (s : Nat) : Nat → List St
  | 0 => bwdR M ms part last a s
  | 1 => bwdE M ms part last a s false (bwdR M ms part last a s)
  | _ + 2 => bwdR M ms part last a (s + 1)
theorem bbT_step {M : Nat} {ms : List Int} {part : List Nat} {last : Bool} {a : List St} {s : Nat} (c : Bool) : bbT M ms part last a s (bN c + 1) = bwdE M ms part last a s c (bbT M ms part last a s (bN c)) := by cases c <;> rfl

/-- a drawn region whose operations make memory above D, its last operations in one order -/
theorem wp_region_B {P : Program} (Rv : FuncId → Array Value → Value → Prop) (n : Nat) {D : Nat} {w0 : World} {id : Nat} {Q : Exit → Act → World → Prop} {a : Act} {w : World} {l : List Oper} (hm : P.follows .mixedOrders = true) (hB : Region.lexTailB .any l.toArray n = true) (hw : Below D w0 w)
    (h : wpRel P l.toArray (Below D w0) Rv (fun a' => ∀ w', Below D w0 w' → wpList P l.toArray Q (l.drop n) a' w') (l.take n) a) : (Code.region id l.toArray true).wp P Q a w :=
  wp_region_rel_tail (C := Below D w0) (Rv := Rv) n hm hB (below_drewN hw 1) h
@[go_sem] theorem operRel_B {P : Program} {Rv : FuncId → Array Value → Value → Prop} {o : Oper} {a : Act} {D : Nat} {w0 : World} {next : Act → Prop} :
    operRel P o a (Below D w0) Rv next ↔ ∀ W, Below D w0 W → relUpon P (Below D w0) Rv (fun v => next (a.put o.dst v)) ((execOp a.eval o).run P W) := Iff.rfl
/-- what the joins and sums yield -/
def RvJ (f : FuncId) (args : Array Value) (v : Value) : Prop :=
  (f = 48 ∧ ∃ h x y k z, args = #[.agg #[.bool h, .float .f32 x], .float .f32 y] ∧ v = .agg #[.bool k, .float .f32 z] ∧ stO k z = plusS (stO h x) (fl .f32 y)) ∨
  (f = 49 ∧ ∃ h1 x1 h2 x2 k z, args = #[.agg #[.bool h1, .float .f32 x1], .agg #[.bool h2, .float .f32 x2]] ∧ v = .agg #[.bool k, .float .f32 z] ∧ stO k z = joinS (stO h1 x1) (stO h2 x2))

theorem plus_B {D : Nat} {w0 W : World} (hD : D ≤ w0.heap.size) (hW : Below D w0 W) (h : Bool) (x y : Nat) : Calls Try.prog 48 #[.agg #[.bool h, .float .f32 x], .float .f32 y] W fun e w'' => ∃ v, e = .returned v ∧ RvJ 48 #[.agg #[.bool h, .float .f32 x], .float .f32 y] v ∧ Below D w0 w'' :=
  (impl_plus_c W h x y).mono fun _ _ ⟨k, z, h1, h2, h3⟩ => ⟨_, h1, .inl ⟨rfl, h, x, y, k, z, rfl, rfl, h2⟩, hW.trans (h3.mono (Nat.le_trans hD hW.size))⟩
theorem join_B {D : Nat} {w0 W : World} (hD : D ≤ w0.heap.size) (hW : Below D w0 W) (h1 h2 : Bool) (x y : Nat) : Calls Try.prog 49 #[.agg #[.bool h1, .float .f32 x], .agg #[.bool h2, .float .f32 y]] W fun e w'' => ∃ v, e = .returned v ∧ RvJ 49 #[.agg #[.bool h1, .float .f32 x], .agg #[.bool h2, .float .f32 y]] v ∧ Below D w0 w'' :=
  (impl_join_c W h1 h2 x y).mono fun _ _ ⟨k, z, e1, e2, e3⟩ => ⟨_, e1, .inr ⟨rfl, h1, x, h2, y, k, z, rfl, rfl, e2⟩, hW.trans (e3.mono (Nat.le_trans hD hW.size))⟩
theorem rv_plus {h : Bool} {x y : Nat} {v : Value} (hv : RvJ 48 #[.agg #[.bool h, .float .f32 x], .float .f32 y] v) : ∃ k z, v = .agg #[.bool k, .float .f32 z] ∧ stO k z = plusS (stO h x) (fl .f32 y) := by
  rcases hv with ⟨_, h', x', y', k, z, e, rfl, e2⟩ | ⟨e, _⟩
  · simp only [Array.mk.injEq, List.cons.injEq, Value.agg.injEq, Value.bool.injEq, Value.float.injEq, true_and, and_true] at e
    obtain ⟨⟨rfl, rfl⟩, rfl⟩ := e
    exact ⟨k, z, rfl, e2⟩
  · exact absurd e (by decide)
theorem rv_join {h1 h2 : Bool} {x y : Nat} {v : Value} (hv : RvJ 49 #[.agg #[.bool h1, .float .f32 x], .agg #[.bool h2, .float .f32 y]] v) : ∃ k z, v = .agg #[.bool k, .float .f32 z] ∧ stO k z = joinS (stO h1 x) (stO h2 y) := by
  rcases hv with ⟨e, _⟩ | ⟨_, h1', x', h2', y', k, z, e, rfl, e2⟩
  · exact absurd e (by decide)
  · simp only [Array.mk.injEq, List.cons.injEq, Value.agg.injEq, Value.bool.injEq, Value.float.injEq, true_and, and_true] at e
    obtain ⟨⟨rfl, rfl⟩, rfl, rfl⟩ := e
    exact ⟨k, z, rfl, e2⟩
theorem sizeMove : Try.t93.size = 3 := rfl
theorem run_index_move0 (w : World) (a b c d e f : Value) : (Instr.index 94 (.agg #[a, b, c, d, e, f]) (.int .i64 0)).run Try.prog w = .ok (.agg #[a, b, c]) w := by
  simp [Instr.index, run_underlying Try.underlying94, run_underlying Try.underlying93, asIntOf, part, isAgg, sizeOf, sizeMove, go_sem]
theorem run_index_move1 (w : World) (a b c d e f : Value) : (Instr.index 94 (.agg #[a, b, c, d, e, f]) (.int .i64 1)).run Try.prog w = .ok (.agg #[d, e, f]) w := by
  simp [Instr.index, run_underlying Try.underlying94, run_underlying Try.underlying93, asIntOf, part, isAgg, sizeOf, sizeMove, go_sem]
attribute [go_sem] run_index_move0 run_index_move1


set_option maxRecDepth 100000 in
set_option maxHeartbeats 4000000 in
theorem impl_forward_c (w : World) (M : Nat) (hM4 : M ≤ 4) (ms : List Int) (pt : List Nat) (last : Bool) (a g : Nat) (T : List St) (hT : SRow 87 w a (2 ^ M) T) (hm : MRow M ms pt last (fun _ _ => true) w g (2 ^ M)) :
    Calls Try.prog 50 #[.slice (some ⟨a, 0, none⟩) (2 ^ M) (2 ^ M), .slice (some ⟨g, 0, none⟩) (2 ^ M) (2 ^ M)] w fun e w' => ∃ b, e = .returned (.slice (some ⟨b, 0, none⟩) (2 ^ M) (2 ^ M)) ∧ w.heap.size ≤ b ∧ SRow 87 w' b (2 ^ M) (fwdR M ms pt last T (2 ^ M)) ∧ Below w.heap.size w w' := by
  obtain ⟨S, hS⟩ : ∃ S : Nat, 2 ^ M = S := ⟨_, rfl⟩
  have hS16 : S ≤ 16 := by rw [← hS]; exact Nat.pow_le_pow_right (n := 2) (by decide) hM4
  have hS1 : 1 ≤ S := by rw [← hS]; exact Nat.pow_pos (by decide)
  have hmk := fun W : World => run_mkLikely S (by omega) .i64 .i64 W
  rw [hS] at hT hm ⊢
  have HS := Lib.hid hS
  have HT := Lib.hid hT
  have HM := Lib.hid hm
  obtain ⟨w1, e1⟩ : ∃ q : World, q = w.alloc (.cells (madeCells #[Value.bool false, .float .f32 0] (S * 2)) 87) := ⟨_, rfl⟩
  have b1 : Below w.heap.size w w1 := by rw [e1]; exact (Below.refl _ _).alloc (Nat.le_refl _) _
  have R1 : SRow 87 w1 w.heap.size S (noneR S) := by rw [e1]; exact SRow.new _ w S
  have z1 : w.heap.size + 1 ≤ w1.heap.size := by rw [e1]; simp
  have HR1 := Lib.hid R1
  have HB1 := Lib.hid b1
  clear hS hT hm R1 b1
  go_enter Try.func50, Try.ntmps50
  go_wp2_with (rw [← e1]; clear e1)
  clear hmk
  go_loopw [15] (fun i wr => ∃ s : Nat, s ≤ S ∧ i = .int .i64 s ∧ SRow 87 wr w.heap.size S (fwdR M ms pt last T s) ∧ Below w.heap.size w wr) (fun i _ => S - (intOf i).toNat)
  case atStart =>
    refine ⟨0, Nat.zero_le _, rfl, ?_, HB1.out⟩
    show SRow _ w1 _ _ (noneR (2 ^ M))
    rw [HS.out]
    exact HR1.out
  case round =>
    obtain ⟨s, hs, rfl, hr, hb⟩ := hrel
    obtain ⟨wA, rfl⟩ : ∃ q : World, q = wr := ⟨_, rfl⟩
    by_cases hlt : s < S
    · have HR := Lib.hid hr
      have hmA := HM.out.below hb HM.out.lt
      obtain ⟨x0, h1, to1, x1, c0, c1, c2, hx0, c3, c4, c5, hh1, hto1⟩ := hmA.yes hlt
      have HBR := Lib.hid hb
      clear hr hmA hb
      cases last
      · obtain rfl : h1 = true := hh1
        obtain ⟨hto2, hx1⟩ := hto1 rfl
        subst hto2
        clear hto1
        go_wp2
        go_loopw [21] (fun i wr => ∃ j : Nat, j ≤ 2 ∧ i = .int .i64 j ∧ SRow 87 wr w.heap.size S (fbT M ms pt false T s j) ∧ Below w.heap.size w wr) (fun i _ => 2 - (intOf i).toNat)
        case atStart => exact ⟨0, by omega, rfl, HR.out.alloc _, HBR.out.alloc HBR.out.size _⟩
        case round =>
          clear HR c0 c1 c2 c3 c4 c5 HBR
          obtain ⟨j, hj, rfl, hr, hb⟩ := hrel
          obtain ⟨wF, rfl⟩ : ∃ q : World, q = wr := ⟨_, rfl⟩
          have HR := Lib.hid hr
          have HBR := Lib.hid hb
          have hsz := hb.size
          have hRlt := hr.lt
          have hTlt := HT.out.lt
          clear hr hb
          rcases (show j = 0 ∨ j = 1 ∨ j = 2 by omega) with rfl | rfl | rfl
          · obtain ⟨to, eto⟩ : ∃ to, toS M s false = to := ⟨_, rfl⟩
            have hto : to < S := by rw [← eto, ← HS.out]; exact toS_lt false
            rw [eto]
            obtain ⟨wB, eB⟩ : ∃ q : World, q = wF.alloc (.cells #[.bool true, .int .i64 (to : Int), .float .f32 x0] 93) := ⟨_, rfl⟩
            have oB : Obj wB wF.heap.size 93 #[.bool true, .int .i64 (to : Int), .float .f32 x0] := by rw [eB]; exact Obj.new _ _ _
            have bB : Below w.heap.size w wB := by rw [eB]; exact HBR.out.alloc hsz _
            have rB : SRow 87 wB w.heap.size S (fbT M ms pt false T s 0) := by rw [eB]; exact HR.out.alloc _
            have tB : SRow 87 wB a S T := HT.out.below bB hTlt
            obtain ⟨f1, y1, d0, d1, hd⟩ := rB.cells (s := to) (by omega)
            obtain ⟨f2, y2, g0, g1, hg⟩ := tB.cells (s := s) (by omega)
            have m0 := (oB.cell 0).trans (show #[Value.bool true, .int .i64 (to : Int), .float .f32 x0][0]? = some (.bool true) from rfl)
            have HLD : Hid (∀ W, Below wB.heap.size wB W → W.cell? ⟨wF.heap.size, 1, none⟩ = some (.int .i64 (to : Int)) ∧ W.cell? ⟨wF.heap.size, 2, none⟩ = some (.float .f32 x0) ∧ W.cell? ⟨w.heap.size, to * 2, none⟩ = some (.bool f1) ∧ W.cell? ⟨w.heap.size, to * 2 + 1, none⟩ = some (.float .f32 y1) ∧ W.cell? ⟨a, s * 2, none⟩ = some (.bool f2) ∧ W.cell? ⟨a, s * 2 + 1, none⟩ = some (.float .f32 y2)) :=
              Lib.hid fun W hW => ⟨((oB.below hW oB.lt).cell 1).trans rfl, ((oB.below hW oB.lt).cell 2).trans rfl, (hW.cell (p := ⟨w.heap.size, to * 2, none⟩) rB.lt).trans d0, (hW.cell (p := ⟨w.heap.size, to * 2 + 1, none⟩) rB.lt).trans d1, (hW.cell (p := ⟨a, s * 2, none⟩) tB.lt).trans g0, (hW.cell (p := ⟨a, s * 2 + 1, none⟩) tB.lt).trans g1⟩
            have HTO := Lib.hid eto
            clear d0 d1 g0 g1 eto
            go_wp2_with (rw [← eB]; clear eB)
            refine wp_region_B RvJ 17 (D := wB.heap.size) (w0 := wB) (by kernel_rfl) (by kernel_rfl) (Below.refl _ _) ?_
            simp only [List.take_succ_cons, List.take_zero, List.drop_succ_cons, List.drop_zero]
            iterate 14 (refine wpRel_step (fun K hK => ?_); go_simp; intro W hW; obtain ⟨q0, q1, q2, q3, q4, q5⟩ := HLD.out W hW; (try go_simp); (first | refine ⟨hW, hK _ ?_⟩ | refine hK _ ?_); clear q0 q1 q2 q3 q4 q5 hK K hW W)
            refine wpRel_step (fun K hK => ?_)
            go_simp
            intro W hW
            refine ⟨plus_B (Nat.le_refl _) hW _ _ _, fun v hv => ?_⟩
            obtain ⟨k1, z1, rfl, hv1⟩ := rv_plus hv
            refine hK _ ?_
            clear hK K hW W hv
            refine wpRel_step (fun K hK => ?_)
            go_simp
            intro W hW
            refine ⟨join_B (Nat.le_refl _) hW _ _ _ _, fun v hv => ?_⟩
            obtain ⟨k2, z2, rfl, hv2⟩ := rv_join hv
            refine hK _ ?_
            clear hK K hW W hv
            refine wpRel_step (fun K hK => ?_)
            go_simp
            intro W hW
            (first | refine ⟨hW, hK _ ?_⟩ | refine hK _ ?_)
            clear hK K hW W
            refine wpRel_nil ?_
            intro W hW
            have rW := rB.below hW rB.lt
            obtain ⟨f3, y3, t0, t1, _⟩ := rW.cells (s := to) (by omega)
            have u0 := rW.frz (to * 2)
            have u1 := rW.frz (to * 2 + 1)
            have HRW := Lib.hid rW
            have HV : Hid (stO k2 z2 = joinS ((fbT M ms pt false T s 0).getD to none) (plusS (T.getD s none) (halfO ms pt s false))) := Lib.hid (by rw [hv2, hv1, hd, hg, hx0])
            have hbWW : Below w.heap.size w W := bB.trans (hW.mono bB.size)
            clear rW hv1 hv2
            go_wp2
            go_roundw
            case rel =>
              refine ⟨0 + 1, by omega, by go_num, ?_, Below.setCell (p := ⟨w.heap.size, to * 2 + 1, none⟩) (Below.setCell (p := ⟨w.heap.size, to * 2, none⟩) hbWW (Nat.le_refl _) _) (Nat.le_refl _) _⟩
              have h9 := fbT_step (M := M) (ms := ms) (part := pt) (last := false) (a := T) (s := s) false
              rw [fwdE_yes (show (false && false) = false from rfl), HTO.out] at h9
              have h8 := SRow.put HRW.out (to := to) (by omega) k2 z2 _ HV.out
              have e9 : fbT M ms pt false T s (0 + 1) = ((fbT M ms pt false T s 0).set to (joinS ((fbT M ms pt false T s 0).getD to none) (plusS (T.getD s none) (halfO ms pt s false)))) := h9
              rw [e9]
              exact h8
            case measure => simp [intOf]
          · obtain ⟨to, eto⟩ : ∃ to, toS M s true = to := ⟨_, rfl⟩
            have hto : to < S := by rw [← eto, ← HS.out]; exact toS_lt true
            rw [eto]
            obtain ⟨wB, eB⟩ : ∃ q : World, q = wF.alloc (.cells #[.bool true, .int .i64 (to : Int), .float .f32 x1] 93) := ⟨_, rfl⟩
            have oB : Obj wB wF.heap.size 93 #[.bool true, .int .i64 (to : Int), .float .f32 x1] := by rw [eB]; exact Obj.new _ _ _
            have bB : Below w.heap.size w wB := by rw [eB]; exact HBR.out.alloc hsz _
            have rB : SRow 87 wB w.heap.size S (fbT M ms pt false T s 1) := by rw [eB]; exact HR.out.alloc _
            have tB : SRow 87 wB a S T := HT.out.below bB hTlt
            obtain ⟨f1, y1, d0, d1, hd⟩ := rB.cells (s := to) (by omega)
            obtain ⟨f2, y2, g0, g1, hg⟩ := tB.cells (s := s) (by omega)
            have m0 := (oB.cell 0).trans (show #[Value.bool true, .int .i64 (to : Int), .float .f32 x1][0]? = some (.bool true) from rfl)
            have HLD : Hid (∀ W, Below wB.heap.size wB W → W.cell? ⟨wF.heap.size, 1, none⟩ = some (.int .i64 (to : Int)) ∧ W.cell? ⟨wF.heap.size, 2, none⟩ = some (.float .f32 x1) ∧ W.cell? ⟨w.heap.size, to * 2, none⟩ = some (.bool f1) ∧ W.cell? ⟨w.heap.size, to * 2 + 1, none⟩ = some (.float .f32 y1) ∧ W.cell? ⟨a, s * 2, none⟩ = some (.bool f2) ∧ W.cell? ⟨a, s * 2 + 1, none⟩ = some (.float .f32 y2)) :=
              Lib.hid fun W hW => ⟨((oB.below hW oB.lt).cell 1).trans rfl, ((oB.below hW oB.lt).cell 2).trans rfl, (hW.cell (p := ⟨w.heap.size, to * 2, none⟩) rB.lt).trans d0, (hW.cell (p := ⟨w.heap.size, to * 2 + 1, none⟩) rB.lt).trans d1, (hW.cell (p := ⟨a, s * 2, none⟩) tB.lt).trans g0, (hW.cell (p := ⟨a, s * 2 + 1, none⟩) tB.lt).trans g1⟩
            have HTO := Lib.hid eto
            clear d0 d1 g0 g1 eto
            go_wp2_with (rw [← eB]; clear eB)
            refine wp_region_B RvJ 17 (D := wB.heap.size) (w0 := wB) (by kernel_rfl) (by kernel_rfl) (Below.refl _ _) ?_
            simp only [List.take_succ_cons, List.take_zero, List.drop_succ_cons, List.drop_zero]
            iterate 14 (refine wpRel_step (fun K hK => ?_); go_simp; intro W hW; obtain ⟨q0, q1, q2, q3, q4, q5⟩ := HLD.out W hW; (try go_simp); (first | refine ⟨hW, hK _ ?_⟩ | refine hK _ ?_); clear q0 q1 q2 q3 q4 q5 hK K hW W)
            refine wpRel_step (fun K hK => ?_)
            go_simp
            intro W hW
            refine ⟨plus_B (Nat.le_refl _) hW _ _ _, fun v hv => ?_⟩
            obtain ⟨k1, z1, rfl, hv1⟩ := rv_plus hv
            refine hK _ ?_
            clear hK K hW W hv
            refine wpRel_step (fun K hK => ?_)
            go_simp
            intro W hW
            refine ⟨join_B (Nat.le_refl _) hW _ _ _ _, fun v hv => ?_⟩
            obtain ⟨k2, z2, rfl, hv2⟩ := rv_join hv
            refine hK _ ?_
            clear hK K hW W hv
            refine wpRel_step (fun K hK => ?_)
            go_simp
            intro W hW
            (first | refine ⟨hW, hK _ ?_⟩ | refine hK _ ?_)
            clear hK K hW W
            refine wpRel_nil ?_
            intro W hW
            have rW := rB.below hW rB.lt
            obtain ⟨f3, y3, t0, t1, _⟩ := rW.cells (s := to) (by omega)
            have u0 := rW.frz (to * 2)
            have u1 := rW.frz (to * 2 + 1)
            have HRW := Lib.hid rW
            have HV : Hid (stO k2 z2 = joinS ((fbT M ms pt false T s 1).getD to none) (plusS (T.getD s none) (halfO ms pt s true))) := Lib.hid (by rw [hv2, hv1, hd, hg, hx1])
            have hbWW : Below w.heap.size w W := bB.trans (hW.mono bB.size)
            clear rW hv1 hv2
            go_wp2
            go_roundw
            case rel =>
              refine ⟨1 + 1, by omega, by go_num, ?_, Below.setCell (p := ⟨w.heap.size, to * 2 + 1, none⟩) (Below.setCell (p := ⟨w.heap.size, to * 2, none⟩) hbWW (Nat.le_refl _) _) (Nat.le_refl _) _⟩
              have h9 := fbT_step (M := M) (ms := ms) (part := pt) (last := false) (a := T) (s := s) true
              rw [fwdE_yes (show (true && false) = false from rfl), HTO.out] at h9
              have h8 := SRow.put HRW.out (to := to) (by omega) k2 z2 _ HV.out
              have e9 : fbT M ms pt false T s (1 + 1) = ((fbT M ms pt false T s 1).set to (joinS ((fbT M ms pt false T s 1).getD to none) (plusS (T.getD s none) (halfO ms pt s true)))) := h9
              rw [e9]
              exact h8
            case measure => simp [intOf]
          · go_wp2
            go_roundw
            case rel => exact ⟨s + 1, by omega, by go_num, HR.out, HBR.out⟩
            case measure => simp [intOf]; omega
      · obtain rfl : h1 = false := hh1
        clear hto1
        go_wp2
        go_loopw [21] (fun i wr => ∃ j : Nat, j ≤ 2 ∧ i = .int .i64 j ∧ SRow 87 wr w.heap.size S (fbT M ms pt true T s j) ∧ Below w.heap.size w wr) (fun i _ => 2 - (intOf i).toNat)
        case atStart => exact ⟨0, by omega, rfl, HR.out.alloc _, HBR.out.alloc HBR.out.size _⟩
        case round =>
          clear HR c0 c1 c2 c3 c4 c5 HBR
          obtain ⟨j, hj, rfl, hr, hb⟩ := hrel
          obtain ⟨wF, rfl⟩ : ∃ q : World, q = wr := ⟨_, rfl⟩
          have HR := Lib.hid hr
          have HBR := Lib.hid hb
          have hsz := hb.size
          have hRlt := hr.lt
          have hTlt := HT.out.lt
          clear hr hb
          rcases (show j = 0 ∨ j = 1 ∨ j = 2 by omega) with rfl | rfl | rfl
          · obtain ⟨to, eto⟩ : ∃ to, toS M s false = to := ⟨_, rfl⟩
            have hto : to < S := by rw [← eto, ← HS.out]; exact toS_lt false
            rw [eto]
            obtain ⟨wB, eB⟩ : ∃ q : World, q = wF.alloc (.cells #[.bool true, .int .i64 (to : Int), .float .f32 x0] 93) := ⟨_, rfl⟩
            have oB : Obj wB wF.heap.size 93 #[.bool true, .int .i64 (to : Int), .float .f32 x0] := by rw [eB]; exact Obj.new _ _ _
            have bB : Below w.heap.size w wB := by rw [eB]; exact HBR.out.alloc hsz _
            have rB : SRow 87 wB w.heap.size S (fbT M ms pt true T s 0) := by rw [eB]; exact HR.out.alloc _
            have tB : SRow 87 wB a S T := HT.out.below bB hTlt
            obtain ⟨f1, y1, d0, d1, hd⟩ := rB.cells (s := to) (by omega)
            obtain ⟨f2, y2, g0, g1, hg⟩ := tB.cells (s := s) (by omega)
            have m0 := (oB.cell 0).trans (show #[Value.bool true, .int .i64 (to : Int), .float .f32 x0][0]? = some (.bool true) from rfl)
            have HLD : Hid (∀ W, Below wB.heap.size wB W → W.cell? ⟨wF.heap.size, 1, none⟩ = some (.int .i64 (to : Int)) ∧ W.cell? ⟨wF.heap.size, 2, none⟩ = some (.float .f32 x0) ∧ W.cell? ⟨w.heap.size, to * 2, none⟩ = some (.bool f1) ∧ W.cell? ⟨w.heap.size, to * 2 + 1, none⟩ = some (.float .f32 y1) ∧ W.cell? ⟨a, s * 2, none⟩ = some (.bool f2) ∧ W.cell? ⟨a, s * 2 + 1, none⟩ = some (.float .f32 y2)) :=
              Lib.hid fun W hW => ⟨((oB.below hW oB.lt).cell 1).trans rfl, ((oB.below hW oB.lt).cell 2).trans rfl, (hW.cell (p := ⟨w.heap.size, to * 2, none⟩) rB.lt).trans d0, (hW.cell (p := ⟨w.heap.size, to * 2 + 1, none⟩) rB.lt).trans d1, (hW.cell (p := ⟨a, s * 2, none⟩) tB.lt).trans g0, (hW.cell (p := ⟨a, s * 2 + 1, none⟩) tB.lt).trans g1⟩
            have HTO := Lib.hid eto
            clear d0 d1 g0 g1 eto
            go_wp2_with (rw [← eB]; clear eB)
            refine wp_region_B RvJ 17 (D := wB.heap.size) (w0 := wB) (by kernel_rfl) (by kernel_rfl) (Below.refl _ _) ?_
            simp only [List.take_succ_cons, List.take_zero, List.drop_succ_cons, List.drop_zero]
            iterate 14 (refine wpRel_step (fun K hK => ?_); go_simp; intro W hW; obtain ⟨q0, q1, q2, q3, q4, q5⟩ := HLD.out W hW; (try go_simp); (first | refine ⟨hW, hK _ ?_⟩ | refine hK _ ?_); clear q0 q1 q2 q3 q4 q5 hK K hW W)
            refine wpRel_step (fun K hK => ?_)
            go_simp
            intro W hW
            refine ⟨plus_B (Nat.le_refl _) hW _ _ _, fun v hv => ?_⟩
            obtain ⟨k1, z1, rfl, hv1⟩ := rv_plus hv
            refine hK _ ?_
            clear hK K hW W hv
            refine wpRel_step (fun K hK => ?_)
            go_simp
            intro W hW
            refine ⟨join_B (Nat.le_refl _) hW _ _ _ _, fun v hv => ?_⟩
            obtain ⟨k2, z2, rfl, hv2⟩ := rv_join hv
            refine hK _ ?_
            clear hK K hW W hv
            refine wpRel_step (fun K hK => ?_)
            go_simp
            intro W hW
            (first | refine ⟨hW, hK _ ?_⟩ | refine hK _ ?_)
            clear hK K hW W
            refine wpRel_nil ?_
            intro W hW
            have rW := rB.below hW rB.lt
            obtain ⟨f3, y3, t0, t1, _⟩ := rW.cells (s := to) (by omega)
            have u0 := rW.frz (to * 2)
            have u1 := rW.frz (to * 2 + 1)
            have HRW := Lib.hid rW
            have HV : Hid (stO k2 z2 = joinS ((fbT M ms pt true T s 0).getD to none) (plusS (T.getD s none) (halfO ms pt s false))) := Lib.hid (by rw [hv2, hv1, hd, hg, hx0])
            have hbWW : Below w.heap.size w W := bB.trans (hW.mono bB.size)
            clear rW hv1 hv2
            go_wp2
            go_roundw
            case rel =>
              refine ⟨0 + 1, by omega, by go_num, ?_, Below.setCell (p := ⟨w.heap.size, to * 2 + 1, none⟩) (Below.setCell (p := ⟨w.heap.size, to * 2, none⟩) hbWW (Nat.le_refl _) _) (Nat.le_refl _) _⟩
              have h9 := fbT_step (M := M) (ms := ms) (part := pt) (last := true) (a := T) (s := s) false
              rw [fwdE_yes (show (false && true) = false from rfl), HTO.out] at h9
              have h8 := SRow.put HRW.out (to := to) (by omega) k2 z2 _ HV.out
              have e9 : fbT M ms pt true T s (0 + 1) = ((fbT M ms pt true T s 0).set to (joinS ((fbT M ms pt true T s 0).getD to none) (plusS (T.getD s none) (halfO ms pt s false)))) := h9
              rw [e9]
              exact h8
            case measure => simp [intOf]
          · obtain ⟨wB, eB⟩ : ∃ q : World, q = wF.alloc (.cells #[.bool false, .int .i64 to1, .float .f32 x1] 93) := ⟨_, rfl⟩
            have oB : Obj wB wF.heap.size 93 #[.bool false, .int .i64 to1, .float .f32 x1] := by rw [eB]; exact Obj.new _ _ _
            have bB : Below w.heap.size w wB := by rw [eB]; exact HBR.out.alloc hsz _
            have rB : SRow 87 wB w.heap.size S (fbT M ms pt true T s 1) := by rw [eB]; exact HR.out.alloc _
            have m0 := (oB.cell 0).trans (show #[Value.bool false, .int .i64 to1, .float .f32 x1][0]? = some (.bool false) from rfl)
            have hstep : fbT M ms pt true T s (1 + 1) = fbT M ms pt true T s 1 := (fbT_step true).trans fwdE_last
            have HSTEP := Lib.hid hstep
            clear hstep
            go_wp2_with (rw [← eB]; clear eB)
            go_roundw
            case rel => exact ⟨1 + 1, by omega, by go_num, by rw [HSTEP.out]; exact rB, bB⟩
            case measure => simp [intOf]
          · go_wp2
            go_roundw
            case rel => exact ⟨s + 1, by omega, by go_num, HR.out, HBR.out⟩
            case measure => simp [intOf]; omega
    · obtain rfl : s = S := by omega
      have HR := Lib.hid hr
      clear hr
      go_wp2
      go_ret
      exact ⟨_, rfl, Nat.le_refl _, HR.out, hb⟩


set_option maxRecDepth 100000 in
set_option maxHeartbeats 4000000 in
theorem impl_backward_c (w : World) (M : Nat) (hM4 : M ≤ 4) (ms : List Int) (pt : List Nat) (last : Bool) (a g : Nat) (T : List St) (hT : SRow 87 w a (2 ^ M) T) (hm : MRow M ms pt last (fun _ _ => true) w g (2 ^ M)) :
    Calls Try.prog 46 #[.slice (some ⟨a, 0, none⟩) (2 ^ M) (2 ^ M), .slice (some ⟨g, 0, none⟩) (2 ^ M) (2 ^ M)] w fun e w' => ∃ b, e = .returned (.slice (some ⟨b, 0, none⟩) (2 ^ M) (2 ^ M)) ∧ w.heap.size ≤ b ∧ SRow 87 w' b (2 ^ M) (bwdR M ms pt last T (2 ^ M)) ∧ Below w.heap.size w w' := by
  obtain ⟨S, hS⟩ : ∃ S : Nat, 2 ^ M = S := ⟨_, rfl⟩
  have hS16 : S ≤ 16 := by rw [← hS]; exact Nat.pow_le_pow_right (n := 2) (by decide) hM4
  have hS1 : 1 ≤ S := by rw [← hS]; exact Nat.pow_pos (by decide)
  have hmk := fun W : World => run_mkLikely S (by omega) .i64 .i64 W
  rw [hS] at hT hm ⊢
  have HS := Lib.hid hS
  have HT := Lib.hid hT
  have HM := Lib.hid hm
  obtain ⟨w1, e1⟩ : ∃ q : World, q = w.alloc (.cells (madeCells #[Value.bool false, .float .f32 0] (S * 2)) 87) := ⟨_, rfl⟩
  have b1 : Below w.heap.size w w1 := by rw [e1]; exact (Below.refl _ _).alloc (Nat.le_refl _) _
  have R1 : SRow 87 w1 w.heap.size S (noneR S) := by rw [e1]; exact SRow.new _ w S
  have z1 : w.heap.size + 1 ≤ w1.heap.size := by rw [e1]; simp
  have HR1 := Lib.hid R1
  have HB1 := Lib.hid b1
  clear hS hT hm R1 b1
  go_enter Try.func46, Try.ntmps46
  go_wp2_with (rw [← e1]; clear e1)
  clear hmk
  go_loopw [15] (fun i wr => ∃ s : Nat, s ≤ S ∧ i = .int .i64 s ∧ SRow 87 wr w.heap.size S (bwdR M ms pt last T s) ∧ Below w.heap.size w wr) (fun i _ => S - (intOf i).toNat)
  case atStart =>
    refine ⟨0, Nat.zero_le _, rfl, ?_, HB1.out⟩
    show SRow _ w1 _ _ (noneR (2 ^ M))
    rw [HS.out]
    exact HR1.out
  case round =>
    obtain ⟨s, hs, rfl, hr, hb⟩ := hrel
    obtain ⟨wA, rfl⟩ : ∃ q : World, q = wr := ⟨_, rfl⟩
    by_cases hlt : s < S
    · have HR := Lib.hid hr
      have hmA := HM.out.below hb HM.out.lt
      obtain ⟨x0, h1, to1, x1, c0, c1, c2, hx0, c3, c4, c5, hh1, hto1⟩ := hmA.yes hlt
      have HBR := Lib.hid hb
      clear hr hmA hb
      cases last
      · obtain rfl : h1 = true := hh1
        obtain ⟨hto2, hx1⟩ := hto1 rfl
        subst hto2
        clear hto1
        go_wp2
        go_loopw [21] (fun i wr => ∃ j : Nat, j ≤ 2 ∧ i = .int .i64 j ∧ SRow 87 wr w.heap.size S (bbT M ms pt false T s j) ∧ Below w.heap.size w wr) (fun i _ => 2 - (intOf i).toNat)
        case atStart => exact ⟨0, by omega, rfl, HR.out.alloc _, HBR.out.alloc HBR.out.size _⟩
        case round =>
          clear HR c0 c1 c2 c3 c4 c5 HBR
          obtain ⟨j, hj, rfl, hr, hb⟩ := hrel
          obtain ⟨wF, rfl⟩ : ∃ q : World, q = wr := ⟨_, rfl⟩
          have HR := Lib.hid hr
          have HBR := Lib.hid hb
          have hsz := hb.size
          have hRlt := hr.lt
          have hTlt := HT.out.lt
          clear hr hb
          rcases (show j = 0 ∨ j = 1 ∨ j = 2 by omega) with rfl | rfl | rfl
          · obtain ⟨to, eto⟩ : ∃ to, toS M s false = to := ⟨_, rfl⟩
            have hto : to < S := by rw [← eto, ← HS.out]; exact toS_lt false
            rw [eto]
            obtain ⟨wB, eB⟩ : ∃ q : World, q = wF.alloc (.cells #[.bool true, .int .i64 (to : Int), .float .f32 x0] 93) := ⟨_, rfl⟩
            have oB : Obj wB wF.heap.size 93 #[.bool true, .int .i64 (to : Int), .float .f32 x0] := by rw [eB]; exact Obj.new _ _ _
            have bB : Below w.heap.size w wB := by rw [eB]; exact HBR.out.alloc hsz _
            have rB : SRow 87 wB w.heap.size S (bbT M ms pt false T s 0) := by rw [eB]; exact HR.out.alloc _
            have tB : SRow 87 wB a S T := HT.out.below bB hTlt
            obtain ⟨f1, y1, d0, d1, hd⟩ := rB.cells (s := s) (by omega)
            obtain ⟨f2, y2, g0, g1, hg⟩ := tB.cells (s := to) (by omega)
            have m0 := (oB.cell 0).trans (show #[Value.bool true, .int .i64 (to : Int), .float .f32 x0][0]? = some (.bool true) from rfl)
            have HLD : Hid (∀ W, Below wB.heap.size wB W → W.cell? ⟨wF.heap.size, 1, none⟩ = some (.int .i64 (to : Int)) ∧ W.cell? ⟨wF.heap.size, 2, none⟩ = some (.float .f32 x0) ∧ W.cell? ⟨w.heap.size, s * 2, none⟩ = some (.bool f1) ∧ W.cell? ⟨w.heap.size, s * 2 + 1, none⟩ = some (.float .f32 y1) ∧ W.cell? ⟨a, to * 2, none⟩ = some (.bool f2) ∧ W.cell? ⟨a, to * 2 + 1, none⟩ = some (.float .f32 y2)) :=
              Lib.hid fun W hW => ⟨((oB.below hW oB.lt).cell 1).trans rfl, ((oB.below hW oB.lt).cell 2).trans rfl, (hW.cell (p := ⟨w.heap.size, s * 2, none⟩) rB.lt).trans d0, (hW.cell (p := ⟨w.heap.size, s * 2 + 1, none⟩) rB.lt).trans d1, (hW.cell (p := ⟨a, to * 2, none⟩) tB.lt).trans g0, (hW.cell (p := ⟨a, to * 2 + 1, none⟩) tB.lt).trans g1⟩
            have HTO := Lib.hid eto
            clear d0 d1 g0 g1 eto
            go_wp2_with (rw [← eB]; clear eB)
            refine wp_region_B RvJ 16 (D := wB.heap.size) (w0 := wB) (by kernel_rfl) (by kernel_rfl) (Below.refl _ _) ?_
            simp only [List.take_succ_cons, List.take_zero, List.drop_succ_cons, List.drop_zero]
            iterate 13 (refine wpRel_step (fun K hK => ?_); go_simp; intro W hW; obtain ⟨q0, q1, q2, q3, q4, q5⟩ := HLD.out W hW; (try go_simp); (first | refine ⟨hW, hK _ ?_⟩ | refine hK _ ?_); clear q0 q1 q2 q3 q4 q5 hK K hW W)
            refine wpRel_step (fun K hK => ?_)
            go_simp
            intro W hW
            refine ⟨plus_B (Nat.le_refl _) hW _ _ _, fun v hv => ?_⟩
            obtain ⟨k1, z1, rfl, hv1⟩ := rv_plus hv
            refine hK _ ?_
            clear hK K hW W hv
            refine wpRel_step (fun K hK => ?_)
            go_simp
            intro W hW
            refine ⟨join_B (Nat.le_refl _) hW _ _ _ _, fun v hv => ?_⟩
            obtain ⟨k2, z2, rfl, hv2⟩ := rv_join hv
            refine hK _ ?_
            clear hK K hW W hv
            refine wpRel_step (fun K hK => ?_)
            go_simp
            intro W hW
            (first | refine ⟨hW, hK _ ?_⟩ | refine hK _ ?_)
            clear hK K hW W
            refine wpRel_nil ?_
            intro W hW
            have rW := rB.below hW rB.lt
            obtain ⟨f3, y3, t0, t1, _⟩ := rW.cells (s := s) (by omega)
            have u0 := rW.frz (s * 2)
            have u1 := rW.frz (s * 2 + 1)
            have HRW := Lib.hid rW
            have HV : Hid (stO k2 z2 = joinS ((bbT M ms pt false T s 0).getD s none) (plusS (T.getD to none) (halfO ms pt s false))) := Lib.hid (by rw [hv2, hv1, hd, hg, hx0])
            have hbWW : Below w.heap.size w W := bB.trans (hW.mono bB.size)
            clear rW hv1 hv2
            go_wp2
            go_roundw
            case rel =>
              refine ⟨0 + 1, by omega, by go_num, ?_, Below.setCell (p := ⟨w.heap.size, s * 2 + 1, none⟩) (Below.setCell (p := ⟨w.heap.size, s * 2, none⟩) hbWW (Nat.le_refl _) _) (Nat.le_refl _) _⟩
              have h9 := bbT_step (M := M) (ms := ms) (part := pt) (last := false) (a := T) (s := s) false
              rw [bwdE_yes (show (false && false) = false from rfl), HTO.out] at h9
              have h8 := SRow.put HRW.out (to := s) (by omega) k2 z2 _ HV.out
              have e9 : bbT M ms pt false T s (0 + 1) = ((bbT M ms pt false T s 0).set s (joinS ((bbT M ms pt false T s 0).getD s none) (plusS (T.getD to none) (halfO ms pt s false)))) := h9
              rw [e9]
              exact h8
            case measure => simp [intOf]
          · obtain ⟨to, eto⟩ : ∃ to, toS M s true = to := ⟨_, rfl⟩
            have hto : to < S := by rw [← eto, ← HS.out]; exact toS_lt true
            rw [eto]
            obtain ⟨wB, eB⟩ : ∃ q : World, q = wF.alloc (.cells #[.bool true, .int .i64 (to : Int), .float .f32 x1] 93) := ⟨_, rfl⟩
            have oB : Obj wB wF.heap.size 93 #[.bool true, .int .i64 (to : Int), .float .f32 x1] := by rw [eB]; exact Obj.new _ _ _
            have bB : Below w.heap.size w wB := by rw [eB]; exact HBR.out.alloc hsz _
            have rB : SRow 87 wB w.heap.size S (bbT M ms pt false T s 1) := by rw [eB]; exact HR.out.alloc _
            have tB : SRow 87 wB a S T := HT.out.below bB hTlt
            obtain ⟨f1, y1, d0, d1, hd⟩ := rB.cells (s := s) (by omega)
            obtain ⟨f2, y2, g0, g1, hg⟩ := tB.cells (s := to) (by omega)
            have m0 := (oB.cell 0).trans (show #[Value.bool true, .int .i64 (to : Int), .float .f32 x1][0]? = some (.bool true) from rfl)
            have HLD : Hid (∀ W, Below wB.heap.size wB W → W.cell? ⟨wF.heap.size, 1, none⟩ = some (.int .i64 (to : Int)) ∧ W.cell? ⟨wF.heap.size, 2, none⟩ = some (.float .f32 x1) ∧ W.cell? ⟨w.heap.size, s * 2, none⟩ = some (.bool f1) ∧ W.cell? ⟨w.heap.size, s * 2 + 1, none⟩ = some (.float .f32 y1) ∧ W.cell? ⟨a, to * 2, none⟩ = some (.bool f2) ∧ W.cell? ⟨a, to * 2 + 1, none⟩ = some (.float .f32 y2)) :=
              Lib.hid fun W hW => ⟨((oB.below hW oB.lt).cell 1).trans rfl, ((oB.below hW oB.lt).cell 2).trans rfl, (hW.cell (p := ⟨w.heap.size, s * 2, none⟩) rB.lt).trans d0, (hW.cell (p := ⟨w.heap.size, s * 2 + 1, none⟩) rB.lt).trans d1, (hW.cell (p := ⟨a, to * 2, none⟩) tB.lt).trans g0, (hW.cell (p := ⟨a, to * 2 + 1, none⟩) tB.lt).trans g1⟩
            have HTO := Lib.hid eto
            clear d0 d1 g0 g1 eto
            go_wp2_with (rw [← eB]; clear eB)
            refine wp_region_B RvJ 16 (D := wB.heap.size) (w0 := wB) (by kernel_rfl) (by kernel_rfl) (Below.refl _ _) ?_
            simp only [List.take_succ_cons, List.take_zero, List.drop_succ_cons, List.drop_zero]
            iterate 13 (refine wpRel_step (fun K hK => ?_); go_simp; intro W hW; obtain ⟨q0, q1, q2, q3, q4, q5⟩ := HLD.out W hW; (try go_simp); (first | refine ⟨hW, hK _ ?_⟩ | refine hK _ ?_); clear q0 q1 q2 q3 q4 q5 hK K hW W)
            refine wpRel_step (fun K hK => ?_)
            go_simp
            intro W hW
            refine ⟨plus_B (Nat.le_refl _) hW _ _ _, fun v hv => ?_⟩
            obtain ⟨k1, z1, rfl, hv1⟩ := rv_plus hv
            refine hK _ ?_
            clear hK K hW W hv
            refine wpRel_step (fun K hK => ?_)
            go_simp
            intro W hW
            refine ⟨join_B (Nat.le_refl _) hW _ _ _ _, fun v hv => ?_⟩
            obtain ⟨k2, z2, rfl, hv2⟩ := rv_join hv
            refine hK _ ?_
            clear hK K hW W hv
            refine wpRel_step (fun K hK => ?_)
            go_simp
            intro W hW
            (first | refine ⟨hW, hK _ ?_⟩ | refine hK _ ?_)
            clear hK K hW W
            refine wpRel_nil ?_
            intro W hW
            have rW := rB.below hW rB.lt
            obtain ⟨f3, y3, t0, t1, _⟩ := rW.cells (s := s) (by omega)
            have u0 := rW.frz (s * 2)
            have u1 := rW.frz (s * 2 + 1)
            have HRW := Lib.hid rW
            have HV : Hid (stO k2 z2 = joinS ((bbT M ms pt false T s 1).getD s none) (plusS (T.getD to none) (halfO ms pt s true))) := Lib.hid (by rw [hv2, hv1, hd, hg, hx1])
            have hbWW : Below w.heap.size w W := bB.trans (hW.mono bB.size)
            clear rW hv1 hv2
            go_wp2
            go_roundw
            case rel =>
              refine ⟨1 + 1, by omega, by go_num, ?_, Below.setCell (p := ⟨w.heap.size, s * 2 + 1, none⟩) (Below.setCell (p := ⟨w.heap.size, s * 2, none⟩) hbWW (Nat.le_refl _) _) (Nat.le_refl _) _⟩
              have h9 := bbT_step (M := M) (ms := ms) (part := pt) (last := false) (a := T) (s := s) true
              rw [bwdE_yes (show (true && false) = false from rfl), HTO.out] at h9
              have h8 := SRow.put HRW.out (to := s) (by omega) k2 z2 _ HV.out
              have e9 : bbT M ms pt false T s (1 + 1) = ((bbT M ms pt false T s 1).set s (joinS ((bbT M ms pt false T s 1).getD s none) (plusS (T.getD to none) (halfO ms pt s true)))) := h9
              rw [e9]
              exact h8
            case measure => simp [intOf]
          · go_wp2
            go_roundw
            case rel => exact ⟨s + 1, by omega, by go_num, HR.out, HBR.out⟩
            case measure => simp [intOf]; omega
      · obtain rfl : h1 = false := hh1
        clear hto1
        go_wp2
        go_loopw [21] (fun i wr => ∃ j : Nat, j ≤ 2 ∧ i = .int .i64 j ∧ SRow 87 wr w.heap.size S (bbT M ms pt true T s j) ∧ Below w.heap.size w wr) (fun i _ => 2 - (intOf i).toNat)
        case atStart => exact ⟨0, by omega, rfl, HR.out.alloc _, HBR.out.alloc HBR.out.size _⟩
        case round =>
          clear HR c0 c1 c2 c3 c4 c5 HBR
          obtain ⟨j, hj, rfl, hr, hb⟩ := hrel
          obtain ⟨wF, rfl⟩ : ∃ q : World, q = wr := ⟨_, rfl⟩
          have HR := Lib.hid hr
          have HBR := Lib.hid hb
          have hsz := hb.size
          have hRlt := hr.lt
          have hTlt := HT.out.lt
          clear hr hb
          rcases (show j = 0 ∨ j = 1 ∨ j = 2 by omega) with rfl | rfl | rfl
          · obtain ⟨to, eto⟩ : ∃ to, toS M s false = to := ⟨_, rfl⟩
            have hto : to < S := by rw [← eto, ← HS.out]; exact toS_lt false
            rw [eto]
            obtain ⟨wB, eB⟩ : ∃ q : World, q = wF.alloc (.cells #[.bool true, .int .i64 (to : Int), .float .f32 x0] 93) := ⟨_, rfl⟩
            have oB : Obj wB wF.heap.size 93 #[.bool true, .int .i64 (to : Int), .float .f32 x0] := by rw [eB]; exact Obj.new _ _ _
            have bB : Below w.heap.size w wB := by rw [eB]; exact HBR.out.alloc hsz _
            have rB : SRow 87 wB w.heap.size S (bbT M ms pt true T s 0) := by rw [eB]; exact HR.out.alloc _
            have tB : SRow 87 wB a S T := HT.out.below bB hTlt
            obtain ⟨f1, y1, d0, d1, hd⟩ := rB.cells (s := s) (by omega)
            obtain ⟨f2, y2, g0, g1, hg⟩ := tB.cells (s := to) (by omega)
            have m0 := (oB.cell 0).trans (show #[Value.bool true, .int .i64 (to : Int), .float .f32 x0][0]? = some (.bool true) from rfl)
            have HLD : Hid (∀ W, Below wB.heap.size wB W → W.cell? ⟨wF.heap.size, 1, none⟩ = some (.int .i64 (to : Int)) ∧ W.cell? ⟨wF.heap.size, 2, none⟩ = some (.float .f32 x0) ∧ W.cell? ⟨w.heap.size, s * 2, none⟩ = some (.bool f1) ∧ W.cell? ⟨w.heap.size, s * 2 + 1, none⟩ = some (.float .f32 y1) ∧ W.cell? ⟨a, to * 2, none⟩ = some (.bool f2) ∧ W.cell? ⟨a, to * 2 + 1, none⟩ = some (.float .f32 y2)) :=
              Lib.hid fun W hW => ⟨((oB.below hW oB.lt).cell 1).trans rfl, ((oB.below hW oB.lt).cell 2).trans rfl, (hW.cell (p := ⟨w.heap.size, s * 2, none⟩) rB.lt).trans d0, (hW.cell (p := ⟨w.heap.size, s * 2 + 1, none⟩) rB.lt).trans d1, (hW.cell (p := ⟨a, to * 2, none⟩) tB.lt).trans g0, (hW.cell (p := ⟨a, to * 2 + 1, none⟩) tB.lt).trans g1⟩
            have HTO := Lib.hid eto
            clear d0 d1 g0 g1 eto
            go_wp2_with (rw [← eB]; clear eB)
            refine wp_region_B RvJ 16 (D := wB.heap.size) (w0 := wB) (by kernel_rfl) (by kernel_rfl) (Below.refl _ _) ?_
            simp only [List.take_succ_cons, List.take_zero, List.drop_succ_cons, List.drop_zero]
            iterate 13 (refine wpRel_step (fun K hK => ?_); go_simp; intro W hW; obtain ⟨q0, q1, q2, q3, q4, q5⟩ := HLD.out W hW; (try go_simp); (first | refine ⟨hW, hK _ ?_⟩ | refine hK _ ?_); clear q0 q1 q2 q3 q4 q5 hK K hW W)
            refine wpRel_step (fun K hK => ?_)
            go_simp
            intro W hW
            refine ⟨plus_B (Nat.le_refl _) hW _ _ _, fun v hv => ?_⟩
            obtain ⟨k1, z1, rfl, hv1⟩ := rv_plus hv
            refine hK _ ?_
            clear hK K hW W hv
            refine wpRel_step (fun K hK => ?_)
            go_simp
            intro W hW
            refine ⟨join_B (Nat.le_refl _) hW _ _ _ _, fun v hv => ?_⟩
            obtain ⟨k2, z2, rfl, hv2⟩ := rv_join hv
            refine hK _ ?_
            clear hK K hW W hv
            refine wpRel_step (fun K hK => ?_)
            go_simp
            intro W hW
            (first | refine ⟨hW, hK _ ?_⟩ | refine hK _ ?_)
            clear hK K hW W
            refine wpRel_nil ?_
            intro W hW
            have rW := rB.below hW rB.lt
            obtain ⟨f3, y3, t0, t1, _⟩ := rW.cells (s := s) (by omega)
            have u0 := rW.frz (s * 2)
            have u1 := rW.frz (s * 2 + 1)
            have HRW := Lib.hid rW
            have HV : Hid (stO k2 z2 = joinS ((bbT M ms pt true T s 0).getD s none) (plusS (T.getD to none) (halfO ms pt s false))) := Lib.hid (by rw [hv2, hv1, hd, hg, hx0])
            have hbWW : Below w.heap.size w W := bB.trans (hW.mono bB.size)
            clear rW hv1 hv2
            go_wp2
            go_roundw
            case rel =>
              refine ⟨0 + 1, by omega, by go_num, ?_, Below.setCell (p := ⟨w.heap.size, s * 2 + 1, none⟩) (Below.setCell (p := ⟨w.heap.size, s * 2, none⟩) hbWW (Nat.le_refl _) _) (Nat.le_refl _) _⟩
              have h9 := bbT_step (M := M) (ms := ms) (part := pt) (last := true) (a := T) (s := s) false
              rw [bwdE_yes (show (false && true) = false from rfl), HTO.out] at h9
              have h8 := SRow.put HRW.out (to := s) (by omega) k2 z2 _ HV.out
              have e9 : bbT M ms pt true T s (0 + 1) = ((bbT M ms pt true T s 0).set s (joinS ((bbT M ms pt true T s 0).getD s none) (plusS (T.getD to none) (halfO ms pt s false)))) := h9
              rw [e9]
              exact h8
            case measure => simp [intOf]
          · obtain ⟨wB, eB⟩ : ∃ q : World, q = wF.alloc (.cells #[.bool false, .int .i64 to1, .float .f32 x1] 93) := ⟨_, rfl⟩
            have oB : Obj wB wF.heap.size 93 #[.bool false, .int .i64 to1, .float .f32 x1] := by rw [eB]; exact Obj.new _ _ _
            have bB : Below w.heap.size w wB := by rw [eB]; exact HBR.out.alloc hsz _
            have rB : SRow 87 wB w.heap.size S (bbT M ms pt true T s 1) := by rw [eB]; exact HR.out.alloc _
            have m0 := (oB.cell 0).trans (show #[Value.bool false, .int .i64 to1, .float .f32 x1][0]? = some (.bool false) from rfl)
            have hstep : bbT M ms pt true T s (1 + 1) = bbT M ms pt true T s 1 := (bbT_step true).trans bwdE_last
            have HSTEP := Lib.hid hstep
            clear hstep
            go_wp2_with (rw [← eB]; clear eB)
            go_roundw
            case rel => exact ⟨1 + 1, by omega, by go_num, by rw [HSTEP.out]; exact rB, bB⟩
            case measure => simp [intOf]
          · go_wp2
            go_roundw
            case rel => exact ⟨s + 1, by omega, by go_num, HR.out, HBR.out⟩
            case measure => simp [intOf]; omega
    · obtain rfl : s = S := by omega
      have HR := Lib.hid hr
      clear hr
      go_wp2
      go_ret
      exact ⟨_, rfl, Nat.le_refl _, HR.out, hb⟩

end Go.Proofs.Ytopeidmafalklaa


namespace Go.Proofs.Ytopeidmafalklaa
open Go.RowKit Go.Shelf

theorem rowsIn_round {l n : Nat} {P : Program} {row : String} {args : Array Value} {w : World} {R : Value → World → Prop} (h : Rows P row args w R) : RowsIn (Fence.wide.inRound l) n P row args w R :=
  fun c cs _ => let ⟨v, w', r, s⟩ := h c cs; ⟨v, w', r, stepsIn_wide.2 s⟩
theorem operIn_round {l n : Nat} {P : Program} {o : Oper} {a : Act} {w : World} {next : Act → World → Prop} {Q : Exit → Act → World → Prop} (hd : ∀ c, o.op ≠ .defer c) (h : o.wp P a w next Q) : o.wpIn (Fence.wide.inRound l) n P a w next Q := by
  refine ⟨fun _ _ => trivial, ?_⟩
  rw [Oper.semAt_eq _ _ _ hd]
  unfold Oper.wp at h
  generalize (execOp a.eval o).run P w = r at h
  cases r with
  | ok x w' =>
    cases x with
    | value v => exact h
    | skip => exact h
    | defer d => exact h
    | enter f args => exact ⟨fun h => (by cases h), CallsIn.inRound l (callsIn_wide.2 h)⟩
    | row row args => exact ⟨fun h => (by cases h), rowsIn_round h⟩
    | _ => exact h.elim
  | halt x w' => cases x <;> exact h
theorem anyIn_round {l n : Nat} {P : Program} {ops : Array Oper} {md : Region.Mode} {Q : Exit → Act → World → Prop} (hq : ¬ LetsOut Q) (hd : ∀ (i : Nat) (o : Oper), ops[i]? = some o → ∀ c, o.op ≠ .defer c) :
    ∀ (fuel : Nat) (listed : Array Bool) (a : Act) (w : World), wpAny P md ops Q fuel listed a w → wpAnyIn (Fence.wide.inRound l) n P md ops Q fuel listed a w
  | 0, _, _, _, h => h
  | fuel + 1, listed, a, w, h => ⟨h.1, fun i hi => by
    have h2 := h.2 i hi
    unfold wpOp at h2
    unfold wpOpIn
    cases ho : ops[i]? with
    | none =>
      simp only [ho] at h2 ⊢
      exact anyIn_round hq hd fuel _ _ _ h2
    | some o =>
      simp only [ho] at h2 ⊢
      by_cases hw : Region.wanted o (yielded ops a.tmps) = true
      · rw [if_pos hw] at h2 ⊢
        exact Oper.wpIn_mono (fun a w h3 => anyIn_round hq hd fuel _ a w h3) (operIn_round (hd i o ho) (h2.resolve_right fun h3 => hq h3.2))
      · rw [if_neg hw] at h2 ⊢
        exact ⟨fun _ _ => trivial, anyIn_round hq hd fuel _ _ _ h2⟩⟩
/-- no operation defers -/
def noDefer (l : List Oper) : Bool := l.all fun o => match o.op with | .defer _ => false | _ => true
theorem noDefer_spec {l : List Oper} (h : noDefer l = true) : ∀ (i : Nat) (o : Oper), l.toArray[i]? = some o → ∀ c, o.op ≠ .defer c := by
  intro i o ho c hc
  unfold noDefer at h
  rw [List.all_eq_true] at h
  have hm : o ∈ l := List.mem_of_getElem? (by simpa using ho)
  have := h o hm
  rw [hc] at this
  cases this
theorem roundRegion {l n : Nat} {P : Program} {id : Nat} {ops : List Oper} {Q : Exit → Act → World → Prop} {a : Act} {w : World} (hm : P.follows .mixedOrders = true) (hd : noDefer ops = true) (hq : ¬ LetsOut Q)
    (h : wpAny P .any ops.toArray Q ops.toArray.size (Array.replicate ops.toArray.size false) a { w with drawn := w.drawn + 1 }) : (Code.region id ops.toArray true).wpIn (Fence.wide.inRound l) n P Q a w :=
  wpIn_region_any hm (anyIn_round hq (noDefer_spec hd) _ _ _ _ h)
theorem round_still_tail {lp nn : Nat} {P : Program} {id : Nat} {Q : Exit → Act → World → Prop} {a : Act} {w : World} {l : List Oper} (n : Nat) (hm : P.follows .mixedOrders = true) (hd : noDefer l = true) (hq : ¬ LetsOut Q) (hB : Region.lexTailB .any l.toArray n = true)
    (h : wpStill P l.toArray { w with drawn := w.drawn + 1 } (fun a' => wpList P l.toArray Q (l.drop n) a' { w with drawn := w.drawn + 1 }) (l.take n) a) : (Code.region id l.toArray true).wpIn (Fence.wide.inRound lp) nn P Q a w := by
  simp only [Region.lexTailB, Bool.and_eq_true, decide_eq_true_eq] at hB
  obtain ⟨⟨⟨⟨hsel, hn⟩, hs⟩, hc⟩, hlex⟩ := hB
  have hn' : n < l.length := by simpa using hn
  have htl : (l.take n).length = n := by simp; omega
  have hdl : (l.drop n).length = l.toArray.size - n := by simp
  have inv0 : HeadInv .any l.toArray n (Array.replicate l.toArray.size false) :=
    ⟨by simp, fun j oj _ hl => (by rw [getD_replicate_false] at hl; cases hl), fun t _ ht => getD_in (by simpa using ht) (getD_replicate_false _ _)⟩
  have H := wpAnyL_lex (md := .any) (g := l.toArray.size - n) hsel hs hc hn (l.take n) 0 _ a (fun j hj => by
    have hj' : j < n := by rw [htl] at hj; exact hj
    simp [hj']) (by simpa using htl) inv0 (by rw [htl]; exact hlex) h
  refine roundRegion hm hd hq ?_
  have := wpAny_of_head (Q' := Q) (g := l.toArray.size - n) (fun listed a' hL => by
    have := wpAny_of_seq (md := .any) (Q' := Q) (l.drop n) n listed a' { w with drawn := w.drawn + 1 } (fun j => by simp [List.getElem?_drop]) (by rw [hdl]; exact hL.1) hL.2
    rwa [hdl] at this) _ _ _ H
  rw [htl, show n + (l.toArray.size - n) = l.toArray.size by omega] at this
  exact this

theorem step_app1 {P : Program} {t e : TypeId} (ht : P.underlying t = some (.slice e)) {z : Value} {bytes : Nat} (hi : (P.info? e).map (fun i => (i.zero, i.size, i.bytes)) = some (some z, 1, bytes)) (hz : z.cells.size = 1) (hby : bytes ≤ 64)
    {w : World} {ops : Array Oper} {o : Oper} {a : Act} {K : Act → World → Prop} {Q : Exit → Act → World → Prop} {E : Prop} (hgd : o.guard = none) (s x : Operand)
    (ho : o.op = .call { callee := .builtin .append, args := #[s, x], argTypes := #[t, t] }) (base : Nat) (v : Value) (xs : List Value) (hs : a.eval s = v) (hown : Ow w base e v xs)
    (g c : Nat) (u : Value) (hx : a.eval x = .slice (some ⟨g, 0, none⟩) 1 c) (hc : w.cell? ⟨g, 0, none⟩ = some u) (h1 : u.oneCell' = true)
    (hlen : xs.length + 1 ≤ 1099511627776) (hbase : base ≤ w.heap.size)
    (h : ∀ v' w', Ow w' base e v' (xs ++ [u]) → w.grownBy w' v.ownBlock → K (a.put o.dst v') w') : if Region.wanted o (yielded ops a.tmps) = true then Oper.wp P o a w K Q else E := by
  have hw : Region.wanted o (yielded ops a.tmps) = true := by simp [Region.wanted, hgd]
  rw [if_pos hw]
  obtain ⟨i, hi1, hi2, hi3, hi4⟩ := info_ok hi
  refine wp_append_own w s x t ho base e i z 1 bytes ht hi1 hi2 hi3 hi4 hz (by decide) v xs.length xs hs hown ⟨g, 0, none⟩ 1 c [u] hx (by simp) ?_ (by simpa using h1) ?_ ?_ hbase ?_
  · intro j u' hu
    have e1 : (⟨g, 0, none⟩ : Addr).add j = ⟨g, j, none⟩ := by unfold Addr.add; split <;> simp_all
    rw [e1]
    cases j with
    | zero => cases hu; exact hc
    | succ j => cases hu
  · unfold maxLen; omega
  · have h2 : (xs.length + 1) * bytes ≤ 1099511627776 * 64 := Nat.mul_le_mul hlen hby
    omega
  · intro v' w' h2 h3 _
    refine h v' w' ?_ h3
    unfold Ow
    rw [List.length_append, List.length_singleton]
    exact h2

end Go.Proofs.Ytopeidmafalklaa


namespace Go.Proofs.Ytopeidmafalklaa
open Go.RowKit Go.Shelf


/-- the rows of a table's round -/
def FwdRel (w : World) (S : Nat) (F : Nat → List St) (N : Nat) (v : Value) (wr : World) : Prop :=
  ∃ bs : List Nat, bs.length = N ∧ AR 71 68 w.heap.size S F wr v bs ∧ Below w.heap.size w wr
theorem sfbT_sz {M : Nat} {ms : List Int} {part : List Nat} {last : Bool} {a : List St} {s : Nat} : ∀ j, (fbT M ms part last a s j).length = 2 ^ M
  | 0 => fwdR_len _
  | 1 => fwdE_len.trans (fwdR_len _)
  | _ + 2 => fwdR_len _

/-- what the calls of a region yield -/
def RvS (H : Option Nat) (f : FuncId) (args : Array Value) (v : Value) : Prop :=
  (f = 39 ∧ ∃ x, v = .float .f32 x ∧ fl .f32 x = H) ∨
  (f = 38 ∧ ∃ h x y z, args = #[.agg #[.bool h, .float .f32 x], .float .f32 y] ∧ v = .agg #[.bool true, .float .f32 z] ∧ stO true z = joinS (stO h x) (some (fl .f32 y)))
theorem sjoin_B {H : Option Nat} {D : Nat} {w0 W : World} (hD : D ≤ w0.heap.size) (hW : Below D w0 W) (h : Bool) (x y : Nat) : Calls Try.prog 38 #[.agg #[.bool h, .float .f32 x], .float .f32 y] W fun e w'' => ∃ v, e = .returned v ∧ RvS H 38 #[.agg #[.bool h, .float .f32 x], .float .f32 y] v ∧ Below D w0 w'' :=
  (spec_l07Join_c W h x y).mono fun _ _ ⟨z, h1, h2, h3⟩ => ⟨_, h1, .inr ⟨rfl, h, x, y, z, rfl, rfl, h2⟩, hW.trans (h3.mono (Nat.le_trans hD hW.size))⟩
theorem rv_sjoin {H : Option Nat} {h : Bool} {x y : Nat} {v : Value} (hv : RvS H 38 #[.agg #[.bool h, .float .f32 x], .float .f32 y] v) : ∃ z, v = .agg #[.bool true, .float .f32 z] ∧ stO true z = joinS (stO h x) (some (fl .f32 y)) := by
  rcases hv with ⟨e, _⟩ | ⟨_, h', x', y', z, e, rfl, e2⟩
  · exact absurd e (by decide)
  · simp only [Array.mk.injEq, List.cons.injEq, Value.agg.injEq, Value.bool.injEq, Value.float.injEq, true_and, and_true] at e
    obtain ⟨⟨rfl, rfl⟩, rfl⟩ := e
    exact ⟨z, rfl, e2⟩
theorem rv_half {H : Option Nat} {args : Array Value} {v : Value} (hv : RvS H 39 args v) : ∃ x, v = .float .f32 x ∧ fl .f32 x = H := by
  rcases hv with ⟨_, h⟩ | ⟨e, _⟩
  · exact h
  · exact absurd e (by decide)
theorem half_B {H : Option Nat} {D : Nat} {w0 W : World} {args : Array Value} (hD : D ≤ w0.heap.size) (hW : Below D w0 W) (hc : Calls Try.prog 39 args W fun e w' => ∃ v, e = .returned (.float .f32 v) ∧ fl .f32 v = H ∧ Below W.heap.size W w') :
    Calls Try.prog 39 args W fun e w'' => ∃ v, e = .returned v ∧ RvS H 39 args v ∧ Below D w0 w'' :=
  hc.mono fun _ _ ⟨x, h1, h2, h3⟩ => ⟨_, h1, .inl ⟨rfl, x, rfl, h2⟩, hW.trans (h3.mono (Nat.le_trans hD hW.size))⟩

/-- what stands behind a region, within its own row -/
def inJ (n : Nat) : Code → Option Code
  | .seq (.region k _ _) b => if k == n then some b else inJ n b
  | .seq a b => match inJ n a with
    | some c => some c
    | none => inJ n b
  | _ => none
/-- what stands behind the row of a region -/
def behJ (n : Nat) : Code → Option Code
  | .seq (.seq (.region k x y) c) b => if k == n then some b else (match behJ n (.seq (.region k x y) c) with
    | some d => some d
    | none => behJ n b)
  | .seq a b => match behJ n a with
    | some c => some c
    | none => behJ n b
  | _ => none
noncomputable def blk39 : Code := ((Try.f6.body.bind (inJ 39)).getD .skip)
noncomputable def beh39 : Code := ((Try.f6.body.bind (behJ 39)).getD .skip)
noncomputable def blk25 : Code := ((Try.f6.body.bind (inJ 25)).getD .skip)
noncomputable def beh25 : Code := ((Try.f6.body.bind (behJ 25)).getD .skip)


set_option maxRecDepth 1000000 in
set_option maxHeartbeats 8000000 in
theorem tail39 (w w6 wA : World) (M : Nat) (hM1 : 1 ≤ M) (hM4 : M ≤ 4) (A : Option Addr) (k cap : Nat) (ms : List Int) (hl : ms.length = k) (hk1 : 1 ≤ k) (hk4 : k ≤ 4) (hr : ∀ x ∈ ms, 0 ≤ x ∧ x ≤ 31)
    (A2 : Option Addr) (n2 cap2 : Nat) (xs : List Nat) (hl2 : xs.length = n2) (hcap : n2 ≤ cap2) (n N S g cg : Nat) (bs : List Nat) (hn : n ≤ 40) (hnN : n ≤ N) (hN44 : N ≤ 44) (hS16 : S ≤ 16) (hS1 : 1 ≤ S)
    (HSS : Hid (2 ^ M = S)) (HN : Hid (n + M = N)) (HNNN : Hid (N * k = n2)) (HNO : Hid (outT M ms xs n n = none → allOk (M : Int) ms xs = false)) (HYES : Hid (∀ l, outT M ms xs n n = some l → allOk (M : Int) ms xs = l.all finB ∧ (l.all finB = true → allL (M : Int) ms xs = l)))
    (HB6 : Hid (Below w.heap.size w w6)) (hz6 : w.heap.size < w6.heap.size) (HO6 : Hid (Obj w6 w.heap.size 29 #[.int .i64 (M : Int), .slice A k cap])) (HX6 : Hid (Sl w6 w.heap.size A (ms.map (Value.int .i64)))) (HY6 : Hid (Sl w6 w.heap.size A2 (xs.map (Value.float .f32))))
    (hbr : Below w6.heap.size w6 wA) (hgA : g < wA.heap.size) (HGA : Hid (∀ i, i < N + 1 → wA.cell? ⟨g, i, none⟩ = some (rV S (bs.getD i 0)))) (HBL : Hid (bs.length = N + 1)) (HAR : Hid (AR 71 68 w6.heap.size S (fwdT M ms xs n) wA (.slice (some ⟨g, 0, none⟩) (N + 1) cg) bs))
    (wB wB' : World) (hB : BRel 71 68 wA S N (bwdT M ms xs n) 0 wB) (hown0 : Ow wB' wB.heap.size 46 (.slice (some ⟨wB.heap.size, 0, none⟩) 0 0) (([] : List Nat).map (Value.float .f32))) (hbel0 : Below wB.heap.size wB wB')
    (K0 : Act → World → Prop) (hK0 : ∀ a w', Code.wp Try.prog beh39 (bodyPost Try.prog Try.f6 (AllPost w (M : Int) ms xs)) a w' → K0 a w')
    (u0 u3 u4 u5 u7 u10 u11 u12 u13 u14 u16 u17 u18 u19 u22 u23 u24 u25 u26 u27 u28 u29 u30 u31 u32 u33 u34 u35 u36 u37 u38 u39 u40 u41 u42 u43 u44 u45 u46 u47 u48 u49 u50 u51 u52 u53 u54 u55 u56 u57 u58 u59 u60 u61 u62 u63 u64 u65 u66 u67 u68 u69 u70 u71 u72 u73 u74 u75 u76 u77 u78 u79 u80 u81 u82 u83 u84 u85 u86 u87 u88 u89 u90 u91 u92 u93 u94 u95 u96 u97 u98 u99 u100 u101 u102 u103 u104 u105 u106 u107 u108 u109 u110 u111 u112 u113 u114 u115 u116 u117 u118 u119 u120 u121 u122 u123 u124 u125 u126 u127 u128 u129 u130 u131 u132 u133 u134 u135 u136 u137 u138 u139 u140 u141 u142 u143 u144 u145 u146 u147 u148 u149 u150 u151 u152 u153 u154 u155 u156 u157 u158 u159 u160 u161 u162 u163 u164 u165 u166 u167 u168 u169 u170 u171 u172 u173 u174 u175 u176 u177 u178 u179 u180 u181 u182 u183 u184 u185 u186 u187 u188 u189 u190 u191 u192 u193 u194 u195 u196 u197 u198 u199 u200 u201 u202 u203 u204 u205 u206 u207 u208 u209 u210 u211 u212 u213 u214 u215 u216 u217 u218 u219 u220 u221 u222 u223 u224 u225 u226 u227 u228 u229 u230 u231 u232 u233 u234 u235 u236 u237 u238 u239 u240 u241 u242 u243 u244 u245 u246 u247 u248 u249 u250 u251 u252 u253 u254 u255 u256 u257 u258 u259 u260 u261 u262 u263 u264 u265 u266 u267 u268 u269 u270 u271 u272 u273 u274 u275 u276 u277 u278 u279 u280 u281 u282 u283 u284 u285 u286 u287 u288 u289 u290 u291 u292 u293 u294 u295 u296 u297 u298 u299 u300 u301 u302 u303 u304 u305 : Value) :
    Code.wp Try.prog blk39 (Exit.then K0 (bodyPost Try.prog Try.f6 (AllPost w (M : Int) ms xs))) ⟨#[u0, .slice A2 n2 cap2, .pointer (some ⟨w.heap.size, 0, none⟩), u3, u4, u5, .int .i64 (n : Int), u7, .int .i64 (S : Int), .slice (some ⟨g, 0, none⟩) (N + 1) cg, u10, u11, u12, u13, u14, .slice (some ⟨wA.heap.size, 0, none⟩) (N + 1) (N + 1), u16, u17, u18, u19, .slice (some ⟨wB.heap.size, 0, none⟩) 0 0, .int .i64 0, u22, u23, u24, u25, u26, u27, u28, u29, u30, u31, u32, u33, u34, u35, u36, u37, u38, u39, u40, u41, u42, u43, u44, u45, u46, u47, u48, u49, u50, u51, u52, u53, u54, u55, u56, u57, u58, u59, u60, u61, u62, u63, u64, u65, u66, u67, u68, u69, u70, u71, u72, u73, u74, u75, u76, u77, u78, u79, u80, u81, u82, u83, u84, u85, u86, u87, u88, u89, u90, u91, u92, u93, u94, u95, u96, u97, u98, u99, u100, u101, u102, u103, u104, u105, u106, u107, u108, u109, u110, u111, u112, u113, u114, u115, u116, u117, u118, u119, u120, u121, u122, u123, u124, u125, u126, u127, u128, u129, u130, u131, u132, u133, u134, u135, u136, u137, u138, u139, u140, u141, u142, u143, u144, u145, u146, u147, u148, u149, u150, u151, u152, u153, u154, u155, u156, u157, u158, u159, u160, u161, u162, u163, u164, u165, u166, u167, u168, u169, u170, u171, u172, u173, u174, u175, u176, u177, u178, u179, u180, u181, u182, u183, u184, u185, u186, u187, u188, u189, u190, u191, u192, u193, u194, u195, u196, u197, u198, u199, u200, u201, u202, u203, u204, u205, u206, u207, u208, u209, u210, u211, u212, u213, u214, u215, u216, u217, u218, u219, u220, u221, u222, u223, u224, u225, u226, u227, u228, u229, u230, u231, u232, u233, u234, u235, u236, u237, u238, u239, u240, u241, u242, u243, u244, u245, u246, u247, u248, u249, u250, u251, u252, u253, u254, u255, u256, u257, u258, u259, u260, u261, u262, u263, u264, u265, u266, u267, u268, u269, u270, u271, u272, u273, u274, u275, u276, u277, u278, u279, u280, u281, u282, u283, u284, u285, u286, u287, u288, u289, u290, u291, u292, u293, u294, u295, u296, u297, u298, u299, u300, u301, u302, u303, u304, u305], []⟩ wB' := by
  have hbw6 := HB6.out
  have hbA6 := hbr.size
  obtain ⟨c0, hc0⟩ : ∃ c, beh39 = c := ⟨_, rfl⟩
  rw [hc0] at hK0
  conv at hc0 => lhs; whnf
  subst hc0
  obtain ⟨cs, hcl, hrow, hcs, hbM⟩ := hB
  have HROW := Lib.hid hrow
  have HCS := Lib.hid hcs
  have hbbB := hrow.lt
  have hzM := hbM.size
  have hmk2 : ∀ W : World, (Instr.makeSlice 68 (.int .i64 2) (.int .i64 2)).run Try.prog W = .ok (.slice (some ⟨W.heap.size, 0, none⟩) 2 2) (W.alloc (.cells (madeCells #[Value.bool false, .float .f32 0] (2 * 2)) 71)) := fun W => run_mkSum 2 (by decide) .i64 .i64 W
  have HMK := Lib.hid hmk2
  clear hrow hcs hmk2
  conv => arg 2; whnf
  go_wp2
  go_loopw [20, 21] (fun v i wr => ∃ t : Nat, t ≤ n ∧ i = .int .i64 t ∧ ∃ (ys : List Nat) (l : List (Option Nat)), outT M ms xs n t = some l ∧ ys.map (fl .f32) = l ∧ ys.length = t ∧ Ow wr wB.heap.size 46 v (ys.map (Value.float .f32)) ∧ Below wB.heap.size wB wr) (fun _ i _ => n - (intOf i).toNat)
  case atStart => exact ⟨0, Nat.zero_le _, rfl, [], [], rfl, rfl, rfl, hown0, hbel0⟩
  case round =>
    obtain ⟨t, ht, rfl, ys, l, hout, hys, hyl, hown, hbB⟩ := hrel
    obtain ⟨wG, rfl⟩ : ∃ q : World, q = wr := ⟨_, rfl⟩
    have hGAB : Below wA.heap.size wA wG := hbM.trans (hbB.mono hzM)
    have hzG := hbB.size
    have HOUT := Lib.hid hout
    have HYS := Lib.hid hys
    have HYL := Lib.hid hyl
    have HOWN := Lib.hid hown
    clear hout hys hyl hown
    by_cases hlt : t < n
    · have hltd : decide ((t : Int) < (n : Int)) = true := decide_eq_true (by omega)
      have hti : t < N + 1 := by omega
      have HGC := Lib.hid (HGA.out t hti)
      obtain ⟨_, hbT⟩ := HAR.out.2 t (by rw [HBL.out]; exact hti)
      obtain ⟨bt, ebt⟩ : ∃ b, bs.getD t 0 = b := ⟨_, rfl⟩
      rw [ebt] at HGC hbT
      obtain ⟨Ta, eTa⟩ : ∃ T, fwdT M ms xs n t = T := ⟨_, rfl⟩
      rw [eTa] at hbT
      have hbt := hbT.lt
      have HBT := Lib.hid hbT
      have hci : N - (t + 1) < cs.length := by omega
      obtain ⟨hb1a, hb1s⟩ := HCS.out (N - (t + 1)) hci
      obtain ⟨b1, eb1⟩ : ∃ b, cs.getD (N - (t + 1)) 0 = b := ⟨_, rfl⟩
      obtain ⟨Tb, eTb⟩ : ∃ T, bwdT M ms xs n (N - (t + 1)) = T := ⟨_, rfl⟩
      rw [eb1] at hb1a hb1s
      rw [eTb] at hb1s
      have hb1B := hb1s.lt
      have hb1c : wB.cell? ⟨wA.heap.size, t + 1, none⟩ = some (rV S b1) := by
        have h := HROW.out.get (k := t + 1) (by rw [brow_len]; omega)
        rw [brow_get (by omega) (by omega), eb1] at h
        exact h
      have HB1C := Lib.hid ((hbB.cell (p := ⟨wA.heap.size, t + 1, none⟩) hbbB).trans hb1c)
      have HTB := Lib.hid (hb1s.below hbB hb1B)
      have hb1G : b1 < wG.heap.size := Nat.lt_of_lt_of_le hb1B hzG
      have hbbG : wA.heap.size < wG.heap.size := Nat.lt_of_lt_of_le hbbB hzG
      obtain ⟨pt, ept⟩ : ∃ pt, partL k xs t = pt := ⟨_, rfl⟩
      have hsum : ∀ c, sumT M ms xs n t c = sumR M ms pt Ta Tb c S := fun c => by
        unfold sumT
        rw [HN.out, eTa, eTb, hl, ept, HSS.out]
      have HSUM := Lib.hid hsum
      have hlo3 : (t + 1) * k ≤ n2 := by rw [← HNNN.out]; exact Nat.mul_le_mul_right k (by omega)
      have HHALF : Hid (∀ W, Below w6.heap.size w6 W → ∀ (s : Nat), s ≤ 15 → ∀ c : Bool, Calls Try.prog 39 #[.pointer (some ⟨w.heap.size, 0, none⟩), .slice A2 n2 cap2, .int .i64 (t : Int), .int .i64 (s : Int), .bool c] W fun e w' => ∃ v, e = .returned (.float .f32 v) ∧ fl .f32 v = halfO ms pt s c ∧ Below W.heap.size W w') :=
        Lib.hid fun W hW s hs c => by
          rw [← ept]
          have bw := HB6.out.trans (hW.mono HB6.out.size)
          exact spec_l07Half_c W w.heap.size A k cap ms hl hk1 hk4 hr (Nat.lt_of_lt_of_le hz6 hW.size) (((hW.cell (p := ⟨w.heap.size, 1, none⟩) hz6)).trans (HO6.out.cell 1)) ((HX6.out.below (hW.mono HB6.out.size)).more bw.size) A2 n2 cap2 xs hl2 ((HY6.out.below (hW.mono HB6.out.size)).more bw.size) hcap t hlo3 (by omega) s hs c
      have htN : (t : Int) < (N : Int) + 1 := by omega
      have htN1 : (t : Int) + 1 < (N : Int) + 1 := by omega
      have hwt : IntKind.i64.wrap ((t : Int) + 1) = (t : Int) + 1 := IntWalk.i64_in _ (by omega)
      have hwn : ((t : Int) + 1).toNat = t + 1 := by omega
      have hwp : (0 : Int) ≤ (t : Int) + 1 := by omega
      have hmk2 := HMK.out
      have HGAB := Lib.hid hGAB
      have R2 := SRow.new 71 wG 2
      have HR2 := Lib.hid R2
      clear R2 ept hsum hb1s hbT eTa eTb eb1 ebt hb1c
      go_wp2
      clear hmk2
      go_loopw [23] (fun i wr => ∃ s : Nat, s ≤ S ∧ i = .int .i64 s ∧ SRow 71 wr wG.heap.size 2 (sumJ M ms pt Ta Tb s 0) ∧ Below wG.heap.size wG wr) (fun i _ => S - (intOf i).toNat)
      case atStart => exact ⟨0, Nat.zero_le _, rfl, HR2.out, (Below.refl _ _).alloc (Nat.le_refl _) _⟩
      case round =>
        obtain ⟨s, hs, rfl, hr0, hb⟩ := hrel
        obtain ⟨wC, rfl⟩ : ∃ q : World, q = wr := ⟨_, rfl⟩
        have HR0 := Lib.hid hr0
        have HB0 := Lib.hid hb
        clear hr0 hb
        have hCA : Below wA.heap.size wA wC := hGAB.trans (HB0.out.mono hGAB.size)
        by_cases hlt2 : s < S
        · obtain ⟨f2, y2, g0, g1, hg⟩ := HBT.out.cells hlt2
          have HTS := Lib.hid hg.symm
          have HY2 := Lib.hid g1
          have c0 := (hCA.cell (p := ⟨g, t, none⟩) hgA).trans HGC.out
          have c1 := (hCA.cell (p := ⟨bt, s * 2, none⟩) hbt).trans g0
          have HG0 := Lib.hid g0
          unfold rV at c0
          clear hg g0 g1
          cases f2
          · go_wp2
            go_loopw [24] (fun j w1 => j = .int .i64 0 ∧ ∃ q, w1 = wC.drewN q) (fun _ _ => 0)
            case atStart => exact ⟨rfl, 0, rfl⟩
            case round =>
              obtain ⟨rfl, q, rfl⟩ := hrel
              go_wp2
              go_roundw
              case rel => exact ⟨s + 1, hlt2, by go_num, by rw [sumJ_skip HTS.out]; exact HR0.out, below_drewN HB0.out _⟩
              case measure => simp [intOf]; omega
          · go_wp2
            go_loopw [24] (fun i wr => ∃ j : Nat, j ≤ 2 ∧ i = .int .i64 j ∧ SRow 71 wr wG.heap.size 2 (sumJ M ms pt Ta Tb s j) ∧ Below wG.heap.size wG wr) (fun i _ => 2 - (intOf i).toNat)
            case atStart => exact ⟨0, by omega, rfl, HR0.out, HB0.out⟩
            case round =>
              clear c0 c1 HR0 HB0 hCA
              obtain ⟨j, hj, rfl, hr0, hbE⟩ := hrel
              obtain ⟨wE, rfl⟩ : ∃ q : World, q = wr := ⟨_, rfl⟩
              have HR := Lib.hid hr0
              have hEA : Below wA.heap.size wA wE := hGAB.trans (hbE.mono hGAB.size)
              have hb6 : Below w6.heap.size w6 wE := hbr.trans (hEA.mono hbA6)
              have c0 := (hEA.cell (p := ⟨g, t, none⟩) hgA).trans HGC.out
              have c1 := (hEA.cell (p := ⟨bt, s * 2, none⟩) hbt).trans HG0.out
              unfold rV at c0
              clear hr0
              rcases (show j = 0 ∨ j = 1 ∨ j = 2 by omega) with rfl | rfl | rfl
              · skip
                obtain ⟨to, eto⟩ : ∃ to, toS M s false = to := ⟨_, rfl⟩
                have hto : to < S := by rw [← eto, ← HSS.out]; exact toS_lt false
                have htv : (2 * (s : Int) + bitI false) % 2 ^ M = (to : Int) := by rw [← eto]; exact toS_eq M s false
                have HTV := Lib.hid htv
                have HTO := Lib.hid eto
                clear htv eto
                have cd0 := (hb6.cell (p := ⟨w.heap.size, 0, none⟩) hz6).trans (HO6.out.cell 0)
                have HCD := Lib.hid cd0
                clear cd0
                go_wp2_with fail
                refine (spec_l07Next_c wE w.heap.size M s false (by omega) (by omega) hM1 hM4 HCD.out).mono ?_
                rintro e w' ⟨rfl, q1, rfl⟩
                rw [HTV.out]
                obtain ⟨wD, eD⟩ : ∃ W : World, W = wE.drewN q1 := ⟨_, rfl⟩
                rw [← eD]
                have rD : SRow 71 wD wG.heap.size 2 (sumJ M ms pt Ta Tb s 0) := by rw [eD]; exact HR.out.drewN _
                have bD : Below wG.heap.size wG wD := by rw [eD]; exact below_drewN hbE _
                have bDA : Below wA.heap.size wA wD := hGAB.trans (bD.mono hGAB.size)
                have b6D : Below w6.heap.size w6 wD := hbr.trans (bDA.mono hbA6)
                have zD := bD.size
                have c2 := (bD.cell (p := ⟨wA.heap.size, t + 1, none⟩) hbbG).trans HB1C.out
                unfold rV at c2
                have tD : SRow 71 wD b1 S Tb := HTB.out.below bD hb1G
                obtain ⟨f3, y3, g2, g3, hg3⟩ := tD.cells hto
                obtain ⟨f1, y1, d0, d1, hd⟩ := rD.cells (s := 0) (by omega)
                have d0 : wD.cell? ⟨wG.heap.size, 0, none⟩ = some (.bool f1) := d0
                have d1 : wD.cell? ⟨wG.heap.size, 1, none⟩ = some (.float .f32 y1) := d1
                cases f3
                · have hstep : sumJ M ms pt Ta Tb s (0 + 1) = sumJ M ms pt Ta Tb s 0 := sumJ_same (c := false) (by rw [HTO.out]; exact hg3.symm)
                  have HSTEP := Lib.hid hstep
                  have HRD := Lib.hid rD
                  clear hstep rD tD d0 d1 hd g3 hg3 eD
                  go_wp2
                  go_roundw
                  case rel => exact ⟨0 + 1, by omega, by go_num, by rw [HSTEP.out]; exact HRD.out, bD⟩
                  case measure => simp [intOf]
                · have HLD : Hid (∀ W, Below wD.heap.size wD W → W.cell? ⟨wG.heap.size, 0, none⟩ = some (.bool f1) ∧ W.cell? ⟨wG.heap.size, 1, none⟩ = some (.float .f32 y1) ∧ W.cell? ⟨g, t, none⟩ = some (.slice (some ⟨bt, 0, none⟩) S S) ∧ W.cell? ⟨bt, s * 2 + 1, none⟩ = some (.float .f32 y2) ∧ W.cell? ⟨wA.heap.size, t + 1, none⟩ = some (.slice (some ⟨b1, 0, none⟩) S S) ∧ W.cell? ⟨b1, to * 2 + 1, none⟩ = some (.float .f32 y3)) :=
                    Lib.hid fun W hW => ⟨(hW.cell (p := ⟨wG.heap.size, 0, none⟩) rD.lt).trans d0, (hW.cell (p := ⟨wG.heap.size, 1, none⟩) rD.lt).trans d1, ((bDA.trans (hW.mono bDA.size)).cell (p := ⟨g, t, none⟩) hgA).trans HGC.out, ((bDA.trans (hW.mono bDA.size)).cell (p := ⟨bt, s * 2 + 1, none⟩) hbt).trans HY2.out, (hW.cell (p := ⟨wA.heap.size, t + 1, none⟩) (by simp only []; omega)).trans c2, (hW.cell (p := ⟨b1, to * 2 + 1, none⟩) tD.lt).trans g3⟩
                  have HHF : Hid (∀ W, Below wD.heap.size wD W → Calls Try.prog 39 #[.pointer (some ⟨w.heap.size, 0, none⟩), .slice A2 n2 cap2, .int .i64 (t : Int), .int .i64 (s : Int), .bool false] W fun e w' => ∃ v, e = .returned (.float .f32 v) ∧ fl .f32 v = halfO ms pt s false ∧ Below W.heap.size W w') :=
                    Lib.hid fun W hW => HHALF.out W (b6D.trans (hW.mono b6D.size)) s (by omega) false
                  clear d0 d1 g3 eD
                  go_wp2_with fail
                  clear c2 g2 c0 c1
                  refine wp_region_B (RvS (halfO ms pt s false)) 33 (D := wD.heap.size) (w0 := wD) (by kernel_rfl) (by kernel_rfl) (Below.refl _ _) ?_
                  simp only [List.take_succ_cons, List.take_zero, List.drop_succ_cons, List.drop_zero]
                  iterate 19 (refine wpRel_step (fun K hK => ?_); go_simp; intro W hW; obtain ⟨q0, q1, q2, q3, q4, q5⟩ := HLD.out W hW; (try go_simp); (first | refine ⟨hW, hK _ ?_⟩ | refine hK _ ?_); clear q0 q1 q2 q3 q4 q5 hK K hW W)
                  refine wpRel_step (fun K hK => ?_)
                  go_simp
                  intro W hW
                  refine ⟨half_B (Nat.le_refl _) hW (HHF.out W hW), fun v hv => ?_⟩
                  obtain ⟨x3, rfl, hx3⟩ := rv_half hv
                  refine hK _ ?_
                  clear hK K hW W hv
                  refine wpRel_step (fun K hK => ?_)
                  go_simp
                  intro W hW
                  refine ⟨below_drewN hW _, hK _ ?_⟩
                  clear hK K
                  obtain ⟨z4, ez4⟩ : ∃ z, fres .add .f32 y2 x3 W.tape W.drawn = z := ⟨_, rfl⟩
                  have Hz4 : Hid (fl .f32 z4 = fop .add .f32 (fl .f32 y2) (fl .f32 x3)) := Lib.hid (by rw [← ez4]; exact fl_fres ..)
                  rw [ez4]
                  clear ez4 hW W
                  iterate 9 (refine wpRel_step (fun K hK => ?_); go_simp; intro W hW; obtain ⟨q0, q1, q2, q3, q4, q5⟩ := HLD.out W hW; (try go_simp); (first | refine ⟨hW, hK _ ?_⟩ | refine hK _ ?_); clear q0 q1 q2 q3 q4 q5 hK K hW W)
                  refine wpRel_step (fun K hK => ?_)
                  go_simp
                  intro W hW
                  refine ⟨below_drewN hW _, hK _ ?_⟩
                  clear hK K
                  obtain ⟨z5, ez5⟩ : ∃ z, fres .add .f32 z4 y3 W.tape W.drawn = z := ⟨_, rfl⟩
                  have Hz5 : Hid (fl .f32 z5 = fop .add .f32 (fl .f32 z4) (fl .f32 y3)) := Lib.hid (by rw [← ez5]; exact fl_fres ..)
                  rw [ez5]
                  clear ez5 hW W
                  refine wpRel_step (fun K hK => ?_)
                  go_simp
                  intro W hW
                  refine ⟨sjoin_B (Nat.le_refl _) hW _ _ _, fun v hv => ?_⟩
                  obtain ⟨z6, rfl, hz6'⟩ := rv_sjoin hv
                  refine hK _ ?_
                  clear hK K hW W hv
                  iterate 1 (refine wpRel_step (fun K hK => ?_); go_simp; intro W hW; obtain ⟨q0, q1, q2, q3, q4, q5⟩ := HLD.out W hW; (try go_simp); (first | refine ⟨hW, hK _ ?_⟩ | refine hK _ ?_); clear q0 q1 q2 q3 q4 q5 hK K hW W)
                  refine wpRel_nil ?_
                  intro W hW
                  have rW := rD.below hW rD.lt
                  obtain ⟨f4, y4, t0, t1, _⟩ := rW.cells (s := 0) (by omega)
                  have t0 : W.cell? ⟨wG.heap.size, 0, none⟩ = some (.bool f4) := t0
                  have t1 : W.cell? ⟨wG.heap.size, 1, none⟩ = some (.float .f32 y4) := t1
                  have u0 := rW.frz 0
                  have u1 := rW.frz 1
                  have HRW := Lib.hid rW
                  have HV : Hid (stO true z6 = sumE M ms pt Ta Tb s false ((sumJ M ms pt Ta Tb s 0).getD 0 none)) := Lib.hid (by
                    unfold sumE
                    rw [hz6', Hz5.out, Hz4.out, hx3, hd, HTO.out, ← hg3, HTS.out]
                    rfl)
                  have hbWW : Below wG.heap.size wG W := bD.trans (hW.mono (by omega))
                  clear rW hz6' hx3
                  go_wp2
                  go_roundw
                  case rel =>
                    refine ⟨0 + 1, by omega, by go_num, ?_, Below.setCell (p := ⟨wG.heap.size, 1, none⟩) (Below.setCell (p := ⟨wG.heap.size, 0, none⟩) hbWW (Nat.le_refl _) _) (Nat.le_refl _) _⟩
                    have h8 := SRow.put HRW.out (to := 0) (by omega) true z6 _ HV.out
                    have e9 : sumJ M ms pt Ta Tb s (0 + 1) = (sumJ M ms pt Ta Tb s 0).set 0 (sumE M ms pt Ta Tb s false ((sumJ M ms pt Ta Tb s 0).getD 0 none)) := sumJ_step false
                    rw [e9]
                    exact h8
                  case measure => simp [intOf]
              · skip
                obtain ⟨to, eto⟩ : ∃ to, toS M s true = to := ⟨_, rfl⟩
                have hto : to < S := by rw [← eto, ← HSS.out]; exact toS_lt true
                have htv : (2 * (s : Int) + bitI true) % 2 ^ M = (to : Int) := by rw [← eto]; exact toS_eq M s true
                have HTV := Lib.hid htv
                have HTO := Lib.hid eto
                clear htv eto
                have cd0 := (hb6.cell (p := ⟨w.heap.size, 0, none⟩) hz6).trans (HO6.out.cell 0)
                have HCD := Lib.hid cd0
                clear cd0
                go_wp2_with fail
                refine (spec_l07Next_c wE w.heap.size M s true (by omega) (by omega) hM1 hM4 HCD.out).mono ?_
                rintro e w' ⟨rfl, q1, rfl⟩
                rw [HTV.out]
                obtain ⟨wD, eD⟩ : ∃ W : World, W = wE.drewN q1 := ⟨_, rfl⟩
                rw [← eD]
                have rD : SRow 71 wD wG.heap.size 2 (sumJ M ms pt Ta Tb s 1) := by rw [eD]; exact HR.out.drewN _
                have bD : Below wG.heap.size wG wD := by rw [eD]; exact below_drewN hbE _
                have bDA : Below wA.heap.size wA wD := hGAB.trans (bD.mono hGAB.size)
                have b6D : Below w6.heap.size w6 wD := hbr.trans (bDA.mono hbA6)
                have zD := bD.size
                have c2 := (bD.cell (p := ⟨wA.heap.size, t + 1, none⟩) hbbG).trans HB1C.out
                unfold rV at c2
                have tD : SRow 71 wD b1 S Tb := HTB.out.below bD hb1G
                obtain ⟨f3, y3, g2, g3, hg3⟩ := tD.cells hto
                obtain ⟨f1, y1, d0, d1, hd⟩ := rD.cells (s := 1) (by omega)
                have d0 : wD.cell? ⟨wG.heap.size, 2, none⟩ = some (.bool f1) := d0
                have d1 : wD.cell? ⟨wG.heap.size, 3, none⟩ = some (.float .f32 y1) := d1
                cases f3
                · have hstep : sumJ M ms pt Ta Tb s (1 + 1) = sumJ M ms pt Ta Tb s 1 := sumJ_same (c := true) (by rw [HTO.out]; exact hg3.symm)
                  have HSTEP := Lib.hid hstep
                  have HRD := Lib.hid rD
                  clear hstep rD tD d0 d1 hd g3 hg3 eD
                  go_wp2
                  go_roundw
                  case rel => exact ⟨1 + 1, by omega, by go_num, by rw [HSTEP.out]; exact HRD.out, bD⟩
                  case measure => simp [intOf]
                · have HLD : Hid (∀ W, Below wD.heap.size wD W → W.cell? ⟨wG.heap.size, 2, none⟩ = some (.bool f1) ∧ W.cell? ⟨wG.heap.size, 3, none⟩ = some (.float .f32 y1) ∧ W.cell? ⟨g, t, none⟩ = some (.slice (some ⟨bt, 0, none⟩) S S) ∧ W.cell? ⟨bt, s * 2 + 1, none⟩ = some (.float .f32 y2) ∧ W.cell? ⟨wA.heap.size, t + 1, none⟩ = some (.slice (some ⟨b1, 0, none⟩) S S) ∧ W.cell? ⟨b1, to * 2 + 1, none⟩ = some (.float .f32 y3)) :=
                    Lib.hid fun W hW => ⟨(hW.cell (p := ⟨wG.heap.size, 2, none⟩) rD.lt).trans d0, (hW.cell (p := ⟨wG.heap.size, 3, none⟩) rD.lt).trans d1, ((bDA.trans (hW.mono bDA.size)).cell (p := ⟨g, t, none⟩) hgA).trans HGC.out, ((bDA.trans (hW.mono bDA.size)).cell (p := ⟨bt, s * 2 + 1, none⟩) hbt).trans HY2.out, (hW.cell (p := ⟨wA.heap.size, t + 1, none⟩) (by simp only []; omega)).trans c2, (hW.cell (p := ⟨b1, to * 2 + 1, none⟩) tD.lt).trans g3⟩
                  have HHF : Hid (∀ W, Below wD.heap.size wD W → Calls Try.prog 39 #[.pointer (some ⟨w.heap.size, 0, none⟩), .slice A2 n2 cap2, .int .i64 (t : Int), .int .i64 (s : Int), .bool true] W fun e w' => ∃ v, e = .returned (.float .f32 v) ∧ fl .f32 v = halfO ms pt s true ∧ Below W.heap.size W w') :=
                    Lib.hid fun W hW => HHALF.out W (b6D.trans (hW.mono b6D.size)) s (by omega) true
                  clear d0 d1 g3 eD
                  go_wp2_with fail
                  clear c2 g2 c0 c1
                  refine wp_region_B (RvS (halfO ms pt s true)) 33 (D := wD.heap.size) (w0 := wD) (by kernel_rfl) (by kernel_rfl) (Below.refl _ _) ?_
                  simp only [List.take_succ_cons, List.take_zero, List.drop_succ_cons, List.drop_zero]
                  iterate 19 (refine wpRel_step (fun K hK => ?_); go_simp; intro W hW; obtain ⟨q0, q1, q2, q3, q4, q5⟩ := HLD.out W hW; (try go_simp); (first | refine ⟨hW, hK _ ?_⟩ | refine hK _ ?_); clear q0 q1 q2 q3 q4 q5 hK K hW W)
                  refine wpRel_step (fun K hK => ?_)
                  go_simp
                  intro W hW
                  refine ⟨half_B (Nat.le_refl _) hW (HHF.out W hW), fun v hv => ?_⟩
                  obtain ⟨x3, rfl, hx3⟩ := rv_half hv
                  refine hK _ ?_
                  clear hK K hW W hv
                  refine wpRel_step (fun K hK => ?_)
                  go_simp
                  intro W hW
                  refine ⟨below_drewN hW _, hK _ ?_⟩
                  clear hK K
                  obtain ⟨z4, ez4⟩ : ∃ z, fres .add .f32 y2 x3 W.tape W.drawn = z := ⟨_, rfl⟩
                  have Hz4 : Hid (fl .f32 z4 = fop .add .f32 (fl .f32 y2) (fl .f32 x3)) := Lib.hid (by rw [← ez4]; exact fl_fres ..)
                  rw [ez4]
                  clear ez4 hW W
                  iterate 9 (refine wpRel_step (fun K hK => ?_); go_simp; intro W hW; obtain ⟨q0, q1, q2, q3, q4, q5⟩ := HLD.out W hW; (try go_simp); (first | refine ⟨hW, hK _ ?_⟩ | refine hK _ ?_); clear q0 q1 q2 q3 q4 q5 hK K hW W)
                  refine wpRel_step (fun K hK => ?_)
                  go_simp
                  intro W hW
                  refine ⟨below_drewN hW _, hK _ ?_⟩
                  clear hK K
                  obtain ⟨z5, ez5⟩ : ∃ z, fres .add .f32 z4 y3 W.tape W.drawn = z := ⟨_, rfl⟩
                  have Hz5 : Hid (fl .f32 z5 = fop .add .f32 (fl .f32 z4) (fl .f32 y3)) := Lib.hid (by rw [← ez5]; exact fl_fres ..)
                  rw [ez5]
                  clear ez5 hW W
                  refine wpRel_step (fun K hK => ?_)
                  go_simp
                  intro W hW
                  refine ⟨sjoin_B (Nat.le_refl _) hW _ _ _, fun v hv => ?_⟩
                  obtain ⟨z6, rfl, hz6'⟩ := rv_sjoin hv
                  refine hK _ ?_
                  clear hK K hW W hv
                  iterate 1 (refine wpRel_step (fun K hK => ?_); go_simp; intro W hW; obtain ⟨q0, q1, q2, q3, q4, q5⟩ := HLD.out W hW; (try go_simp); (first | refine ⟨hW, hK _ ?_⟩ | refine hK _ ?_); clear q0 q1 q2 q3 q4 q5 hK K hW W)
                  refine wpRel_nil ?_
                  intro W hW
                  have rW := rD.below hW rD.lt
                  obtain ⟨f4, y4, t0, t1, _⟩ := rW.cells (s := 1) (by omega)
                  have t0 : W.cell? ⟨wG.heap.size, 2, none⟩ = some (.bool f4) := t0
                  have t1 : W.cell? ⟨wG.heap.size, 3, none⟩ = some (.float .f32 y4) := t1
                  have u0 := rW.frz 2
                  have u1 := rW.frz 3
                  have HRW := Lib.hid rW
                  have HV : Hid (stO true z6 = sumE M ms pt Ta Tb s true ((sumJ M ms pt Ta Tb s 1).getD 1 none)) := Lib.hid (by
                    unfold sumE
                    rw [hz6', Hz5.out, Hz4.out, hx3, hd, HTO.out, ← hg3, HTS.out]
                    rfl)
                  have hbWW : Below wG.heap.size wG W := bD.trans (hW.mono (by omega))
                  clear rW hz6' hx3
                  go_wp2
                  go_roundw
                  case rel =>
                    refine ⟨1 + 1, by omega, by go_num, ?_, Below.setCell (p := ⟨wG.heap.size, 3, none⟩) (Below.setCell (p := ⟨wG.heap.size, 2, none⟩) hbWW (Nat.le_refl _) _) (Nat.le_refl _) _⟩
                    have h8 := SRow.put HRW.out (to := 1) (by omega) true z6 _ HV.out
                    have e9 : sumJ M ms pt Ta Tb s (1 + 1) = (sumJ M ms pt Ta Tb s 1).set 1 (sumE M ms pt Ta Tb s true ((sumJ M ms pt Ta Tb s 1).getD 1 none)) := sumJ_step true
                    rw [e9]
                    exact h8
                  case measure => simp [intOf]
              · go_wp2
                go_roundw
                case rel => exact ⟨s + 1, by omega, by go_num, HR.out, hbE⟩
                case measure => simp [intOf]; omega
        · obtain rfl : s = S := by omega
          obtain ⟨f5, y5, d0, d1, hd5⟩ := HR0.out.cells (s := 0) (by omega)
          obtain ⟨f6, y6, d2, d3, hd6⟩ := HR0.out.cells (s := 1) (by omega)
          have d0 : wC.cell? ⟨wG.heap.size, 0, none⟩ = some (.bool f5) := d0
          have d1 : wC.cell? ⟨wG.heap.size, 1, none⟩ = some (.float .f32 y5) := d1
          have d2 : wC.cell? ⟨wG.heap.size, 2, none⟩ = some (.bool f6) := d2
          have d3 : wC.cell? ⟨wG.heap.size, 3, none⟩ = some (.float .f32 y6) := d3
          have hs5 : stO f5 y5 = sumT M ms xs n t false := hd5.trans (HSUM.out false).symm
          have hs6 : stO f6 y6 = sumT M ms xs n t true := hd6.trans (HSUM.out true).symm
          have hbad : (sumT M ms xs n t false = none ∨ sumT M ms xs n t true = none) → allOk (M : Int) ms xs = false := fun h => HNO.out (by
            have h2 := outT_none (outT_stop h) (n - (t + 1))
            rw [show t + 1 + (n - (t + 1)) = n by omega] at h2
            exact h2)
          have HBAD := Lib.hid hbad
          have HS5 := Lib.hid hs5
          have HS6 := Lib.hid hs6
          have hCw : Below w.heap.size w wC := hbw6.trans ((hbr.trans (hCA.mono hbA6)).mono hbw6.size)
          have HCW := Lib.hid hCw
          clear hd5 hd6 hbad hs5 hs6 hCw
          cases f5
          · go_wp2
            go_ret2
            exact all_fail (HBAD.out (.inl HS5.out.symm)) HCW.out
          · cases f6
            · go_wp2
              go_ret2
              exact all_fail (HBAD.out (.inr HS6.out.symm)) HCW.out
            · have hoC : Ow wC wB.heap.size 46 _ (ys.map (Value.float .f32)) := own_below HOWN.out HB0.out (Nat.le_refl _)
              have HOC := Lib.hid hoC
              have hlen : (ys.map (Value.float .f32)).length + 1 ≤ 1099511627776 := by rw [List.length_map, HYL.out]; omega
              have hzC := HB0.out.size
              have hzC2 : wB.heap.size ≤ wC.heap.size := by omega
              have hx5 : sumT M ms xs n t false = some (fl .f32 y5) := HS5.out.symm
              have hx6 : sumT M ms xs n t true = some (fl .f32 y6) := HS6.out.symm
              have HNX := Lib.hid (outT_step HOUT.out hx5 hx6)
              clear hoC hx5 hx6
              go_wp2_with fail
              go_region_law (refine step_app1 Try.underlying25 infoFloat32 rfl (by decide) (by rfl) _ _ (by rfl) wB.heap.size _ _ (by rfl) (own_dallocY HOC.out _) _ _ _ (by rfl) (cell_new1 _ _ _) rfl hlen (by simp; omega) ?_; intro v' w6 ho6 hg6)
              all_goals
                simp only [List.getElem_toArray, List.getElem_cons_succ, List.getElem_cons_zero, Act.put, List.setIfInBounds_toArray, List.set_cons_succ, List.set_cons_zero]
                go_wp2
                go_roundw
                case rel =>
                  obtain ⟨z, hz, ho7⟩ : ∃ z, fl .f32 z = fop .sub .f32 (fl .f32 y6) (fl .f32 y5) ∧ Ow w6 wB.heap.size 46 v' ((ys ++ [z]).map (Value.float .f32)) := by
                    refine ⟨?zz9, ?hz9, ?oz9⟩
                    case oz9 => rw [List.map_append]; exact ho6
                    case hz9 => exact fl_fres ..
                  refine ⟨t + 1, by omega, by go_num, ys ++ [z], _, HNX.out, by rw [List.map_append, HYS.out, List.map_cons, List.map_nil, hz], by rw [List.length_append, HYL.out, List.length_singleton], ho7, ?_⟩
                  exact ((below_drewN (hbB.trans (HB0.out.mono hzG)) _).alloc (by simp; omega) _).grown hg6 (by simp; omega) fun k hk => (World.ownsRow.lt HOC.out k hk).1
                case measure => simp [intOf]; omega
    · obtain rfl : t = n := by omega
      obtain ⟨A5, c5, rfl, ho5⟩ := HOWN.out.opn
      have hsl := sl_of_own ho5
      have hfin := HYES.out l HOUT.out
      have HFIN := Lib.hid hfin
      have HCF := Lib.hid (spec_l02Finite_c wG wG.heap.size A5 ys.length c5 ys rfl (by rw [HYL.out]; omega) hsl)
      have HO5 := Lib.hid ho5
      have hGw : Below w.heap.size w wG := hbw6.trans ((hbr.trans (hGAB.mono hbA6)).mono hbw6.size)
      have HGW := Lib.hid hGw
      have hall : (ys.all fun x => finB (fl .f32 x)) = l.all finB := by
        rw [← HYS.out, List.all_map]
        rfl
      obtain ⟨q0, hq0⟩ : ∃ q, l.all finB = q := ⟨_, rfl⟩
      rw [hall, hq0] at HCF
      rw [hq0] at HFIN
      have hwB : w.heap.size ≤ wB.heap.size := Nat.le_trans hbw6.size (Nat.le_trans hbA6 hzM)
      clear hsl ho5 hfin hGw hall
      cases q0
      · go_wp2_with fail
        refine HCF.out.mono ?_
        rintro e w9 ⟨rfl, q9, rfl⟩
        go_wp2
        go_ret2
        exact all_fail HFIN.out.1 (below_drewN HGW.out _)
      · have HF1 := Lib.hid HFIN.out.1
        have HF2 := Lib.hid (HFIN.out.2 rfl)
        clear HFIN
        go_wp2_with fail
        refine HCF.out.mono ?_
        rintro e w9 ⟨rfl, q9, rfl⟩
        go_wp2
        go_ret2
        refine ⟨.slice A5 ys.length c5, ys, ?_, by rw [HF2.out]; exact HYS.out, ?_, below_drewN HGW.out _⟩
        · rw [HF1.out]
          rfl
        have h := own_lower HO5.out hwB
        unfold Ow
        rw [List.length_map]
        exact h

end Go.Proofs.Ytopeidmafalklaa


namespace Go.Proofs.Ytopeidmafalklaa
open Go.RowKit Go.Shelf


set_option maxRecDepth 1000000 in
set_option maxHeartbeats 8000000 in
theorem tail25 (w w6 wA : World) (M : Nat) (hM1 : 1 ≤ M) (hM4 : M ≤ 4) (A : Option Addr) (k cap : Nat) (ms : List Int) (hl : ms.length = k) (hk1 : 1 ≤ k) (hk4 : k ≤ 4) (hr : ∀ x ∈ ms, 0 ≤ x ∧ x ≤ 31)
    (A2 : Option Addr) (n2 cap2 : Nat) (xs : List Nat) (hl2 : xs.length = n2) (hcap : n2 ≤ cap2) (n N S g cg : Nat) (bs : List Nat) (hn : n ≤ 40) (hnN : n ≤ N) (hN44 : N ≤ 44) (hS16 : S ≤ 16) (hS1 : 1 ≤ S)
    (HSS : Hid (2 ^ M = S)) (HN : Hid (n + M = N)) (HNNN : Hid (N * k = n2)) (HNO : Hid (outT M ms xs n n = none → allOk (M : Int) ms xs = false)) (HYES : Hid (∀ l, outT M ms xs n n = some l → allOk (M : Int) ms xs = l.all finB ∧ (l.all finB = true → allL (M : Int) ms xs = l)))
    (HB6 : Hid (Below w.heap.size w w6)) (hz6 : w.heap.size < w6.heap.size) (HO6 : Hid (Obj w6 w.heap.size 29 #[.int .i64 (M : Int), .slice A k cap])) (HX6 : Hid (Sl w6 w.heap.size A (ms.map (Value.int .i64)))) (HY6 : Hid (Sl w6 w.heap.size A2 (xs.map (Value.float .f32))))
    (hbr : Below w6.heap.size w6 wA) (hgA : g < wA.heap.size) (HGA : Hid (∀ i, i < N + 1 → wA.cell? ⟨g, i, none⟩ = some (rV S (bs.getD i 0)))) (HBL : Hid (bs.length = N + 1)) (HAR : Hid (AR 71 68 w6.heap.size S (fwdT M ms xs n) wA (.slice (some ⟨g, 0, none⟩) (N + 1) cg) bs))
    (w9 : World) (hB0 : BRel 71 68 wA S N (bwdT M ms xs n) N w9)
    (K0 : Act → World → Prop) (hK0 : ∀ a w', Code.wp Try.prog beh25 (bodyPost Try.prog Try.f6 (AllPost w (M : Int) ms xs)) a w' → K0 a w')
    (u0 u3 u4 u5 u10 u11 u12 u13 u14 u17 u18 u19 u20 u21 u22 u23 u24 u25 u26 u27 u28 u29 u30 u31 u32 u33 u34 u35 u36 u37 u38 u39 u40 u41 u42 u43 u44 u45 u46 u47 u48 u49 u50 u51 u52 u53 u54 u55 u56 u57 u58 u59 u60 u61 u62 u63 u64 u65 u66 u67 u68 u69 u70 u71 u72 u73 u74 u75 u76 u77 u78 u79 u80 u81 u82 u83 u84 u85 u86 u87 u88 u89 u90 u91 u92 u93 u94 u95 u96 u97 u98 u99 u100 u101 u102 u103 u104 u105 u106 u107 u108 u109 u110 u111 u112 u113 u114 u115 u116 u117 u118 u119 u120 u121 u122 u123 u124 u125 u126 u127 u128 u129 u130 u131 u132 u133 u134 u135 u136 u137 u138 u139 u140 u141 u142 u143 u144 u145 u146 u147 u148 u149 u150 u151 u152 u153 u154 u155 u156 u157 u158 u159 u160 u161 u162 u163 u164 u165 u166 u167 u168 u169 u170 u171 u172 u173 u174 u175 u176 u177 u178 u179 u180 u181 u182 u183 u184 u185 u186 u187 u188 u189 u190 u191 u192 u193 u194 u195 u196 u197 u198 u199 u200 u201 u202 u203 u204 u205 u206 u207 u208 u209 u210 u211 u212 u213 u214 u215 u216 u217 u218 u219 u220 u221 u222 u223 u224 u225 u226 u227 u228 u229 u230 u231 u232 u233 u234 u235 u236 u237 u238 u239 u240 u241 u242 u243 u244 u245 u246 u247 u248 u249 u250 u251 u252 u253 u254 u255 u256 u257 u258 u259 u260 u261 u262 u263 u264 u265 u266 u267 u268 u269 u270 u271 u272 u273 u274 u275 u276 u277 u278 u279 u280 u281 u282 u283 u284 u285 u286 u287 u288 u289 u290 u291 u292 u293 u294 u295 u296 u297 u298 u299 u300 u301 u302 u303 u304 u305 : Value) :
    Code.wp Try.prog blk25 (Exit.then K0 (bodyPost Try.prog Try.f6 (AllPost w (M : Int) ms xs))) ⟨#[u0, .slice A2 n2 cap2, .pointer (some ⟨w.heap.size, 0, none⟩), u3, u4, u5, .int .i64 (n : Int), .int .i64 (N : Int), .int .i64 (S : Int), .slice (some ⟨g, 0, none⟩) (N + 1) cg, u10, u11, u12, u13, u14, .slice (some ⟨wA.heap.size, 0, none⟩) (N + 1) (N + 1), .int .i64 ((N : Int) - 1), u17, u18, u19, u20, u21, u22, u23, u24, u25, u26, u27, u28, u29, u30, u31, u32, u33, u34, u35, u36, u37, u38, u39, u40, u41, u42, u43, u44, u45, u46, u47, u48, u49, u50, u51, u52, u53, u54, u55, u56, u57, u58, u59, u60, u61, u62, u63, u64, u65, u66, u67, u68, u69, u70, u71, u72, u73, u74, u75, u76, u77, u78, u79, u80, u81, u82, u83, u84, u85, u86, u87, u88, u89, u90, u91, u92, u93, u94, u95, u96, u97, u98, u99, u100, u101, u102, u103, u104, u105, u106, u107, u108, u109, u110, u111, u112, u113, u114, u115, u116, u117, u118, u119, u120, u121, u122, u123, u124, u125, u126, u127, u128, u129, u130, u131, u132, u133, u134, u135, u136, u137, u138, u139, u140, u141, u142, u143, u144, u145, u146, u147, u148, u149, u150, u151, u152, u153, u154, u155, u156, u157, u158, u159, u160, u161, u162, u163, u164, u165, u166, u167, u168, u169, u170, u171, u172, u173, u174, u175, u176, u177, u178, u179, u180, u181, u182, u183, u184, u185, u186, u187, u188, u189, u190, u191, u192, u193, u194, u195, u196, u197, u198, u199, u200, u201, u202, u203, u204, u205, u206, u207, u208, u209, u210, u211, u212, u213, u214, u215, u216, u217, u218, u219, u220, u221, u222, u223, u224, u225, u226, u227, u228, u229, u230, u231, u232, u233, u234, u235, u236, u237, u238, u239, u240, u241, u242, u243, u244, u245, u246, u247, u248, u249, u250, u251, u252, u253, u254, u255, u256, u257, u258, u259, u260, u261, u262, u263, u264, u265, u266, u267, u268, u269, u270, u271, u272, u273, u274, u275, u276, u277, u278, u279, u280, u281, u282, u283, u284, u285, u286, u287, u288, u289, u290, u291, u292, u293, u294, u295, u296, u297, u298, u299, u300, u301, u302, u303, u304, u305], []⟩ w9 := by
  have hbw6 := HB6.out
  obtain ⟨c0, hc0⟩ : ∃ c, beh25 = c := ⟨_, rfl⟩
  rw [hc0] at hK0
  conv at hc0 => lhs; whnf
  subst hc0
  conv => arg 2; whnf
  go_wp2
  go_loopw [16] (fun i wr => ∃ (t : Nat) (m : Int), t ≤ N ∧ m = (t : Int) - 1 ∧ i = .int .i64 m ∧ BRel 71 68 wA S N (bwdT M ms xs n) t wr) (fun i _ => (intOf i + 1).toNat)
  case atStart => exact ⟨N, (N : Int) - 1, Nat.le_refl _, rfl, rfl, hB0⟩
  case round =>
    obtain ⟨t, m, ht, hm, rfl, hB⟩ := hrel
    obtain ⟨wB, rfl⟩ : ∃ q : World, q = wr := ⟨_, rfl⟩
    have hbA6 := hbr.size
    cases t with
    | succ t =>
      obtain rfl : m = (t : Int) := by omega
      clear hm
      obtain ⟨hbz, ⟨uu, c0⟩, f0, b1, hb1, hb1z, hX⟩ := hB.start (by omega)
      obtain ⟨_, _, _, _, hBb⟩ := hB
      obtain ⟨wX, eX⟩ : ∃ q : World, q = (wB.setCell ⟨wA.heap.size, t, none⟩ (.slice (some ⟨wB.heap.size, 0, none⟩) S S)).alloc (.cells (madeCells #[Value.bool false, .float .f32 0] (S * 2)) 71) := ⟨_, rfl⟩
      obtain ⟨aX0, aX1, tX, sX, zX, hEnd⟩ := hX wX eX
      unfold rV at aX0 aX1
      obtain ⟨pt, ept⟩ : ∃ pt, partL k xs t = pt := ⟨_, rfl⟩
      obtain ⟨la, ela⟩ : ∃ la, decide (n ≤ t) = la := ⟨_, rfl⟩
      obtain ⟨T, eT⟩ : ∃ T, bwdT M ms xs n (N - (t + 1)) = T := ⟨_, rfl⟩
      have htab : bwdT M ms xs n (N - t) = bwdR M ms pt la T S := by
        have h9 : N - t = (N - (t + 1)) + 1 := by omega
        rw [h9, ← HSS.out, ← ept, ← ela, ← eT, ← hl]
        show bwdR M ms (partL ms.length xs (n + M - 1 - (N - (t + 1)))) (decide (n ≤ n + M - 1 - (N - (t + 1)))) _ _ = _
        rw [show n + M - 1 - (N - (t + 1)) = t by have := HN.out; omega]
      rw [eT] at tX
      rw [htab] at hEnd
      have hlo3 : (t + 1) * k ≤ n2 := by rw [← HNNN.out]; exact Nat.mul_le_mul_right k (by omega)
      have hbB6 : Below w6.heap.size w6 wB := hbr.trans (hBb.mono hbA6)
      have hzB := hbB6.size
      have hbX6 : Below w6.heap.size w6 wX := by rw [eX]; exact (Below.setCell (p := ⟨wA.heap.size, t, none⟩) hbB6 hbA6 _).alloc (by simp; omega) _
      have HHALF : Hid (∀ W, Below w6.heap.size w6 W → ∀ (s : Nat), s ≤ 15 → ∀ c : Bool, Calls Try.prog 39 #[.pointer (some ⟨w.heap.size, 0, none⟩), .slice A2 n2 cap2, .int .i64 (t : Int), .int .i64 (s : Int), .bool c] W fun e w' => ∃ v, e = .returned (.float .f32 v) ∧ fl .f32 v = halfO ms pt s c ∧ Below W.heap.size W w') :=
        Lib.hid fun W hW s hs c => by
          rw [← ept]
          have bw := HB6.out.trans (hW.mono HB6.out.size)
          exact spec_l07Half_c W w.heap.size A k cap ms hl hk1 hk4 hr (Nat.lt_of_lt_of_le hz6 hW.size) (((hW.cell (p := ⟨w.heap.size, 1, none⟩) hz6)).trans (HO6.out.cell 1)) ((HX6.out.below (hW.mono HB6.out.size)).more bw.size) A2 n2 cap2 xs hl2 ((HY6.out.below (hW.mono HB6.out.size)).more bw.size) hcap t hlo3 (by omega) s hs c
      have HTX := Lib.hid tX
      have HSX := Lib.hid sX
      have HEND := Lib.hid hEnd
      have HLA := Lib.hid ela
      have HA0 := Lib.hid aX0
      have HA1 := Lib.hid aX1
      have HBX6 := Lib.hid hbX6
      have htN : (t : Int) < (N : Int) + 1 := by omega
      have htN1 : (t : Int) + 1 < (N : Int) + 1 := by omega
      have hwt : IntKind.i64.wrap ((t : Int) + 1) = (t : Int) + 1 := IntWalk.i64_in _ (by omega)
      have hwn : ((t : Int) + 1).toNat = t + 1 := by omega
      have hwp : (0 : Int) ≤ (t : Int) + 1 := by omega
      have hmk := fun W : World => run_mkSum S (Nat.le_trans hS16 (by decide)) .i64 .i64 W
      clear tX sX hEnd htab ela ept eT aX0 aX1 hX hbX6 hBb hbB6
      go_wp2_with (rw [← eX]; clear eX)
      clear c0 f0
      go_loopw [17] (fun i wr => ∃ s : Nat, s ≤ S ∧ i = .int .i64 s ∧ SRow 71 wr wB.heap.size S (bwdR M ms pt la T s) ∧ Below wB.heap.size wX wr) (fun i _ => S - (intOf i).toNat)
      case atStart =>
        refine ⟨0, Nat.zero_le _, rfl, ?_, (Below.refl wX.heap.size wX).mono (by omega)⟩
        show SRow _ _ _ _ (noneR (2 ^ M))
        rw [HSS.out]
        exact HSX.out
      case round =>
        obtain ⟨s, hs, rfl, hr0, hb⟩ := hrel
        obtain ⟨wC, rfl⟩ : ∃ q : World, q = wr := ⟨_, rfl⟩
        have HR0 := Lib.hid hr0
        have HB0 := Lib.hid hb
        clear hr0 hb
        by_cases hlt2 : s < S
        · go_wp2
          go_loopw [18] (fun i wr => ∃ j : Nat, j ≤ 2 ∧ i = .int .i64 j ∧ SRow 71 wr wB.heap.size S (bbT M ms pt la T s j) ∧ Below wB.heap.size wX wr) (fun i _ => 2 - (intOf i).toNat)
          case atStart => exact ⟨0, by omega, rfl, HR0.out, HB0.out⟩
          case round =>
            clear HR0 HB0
            obtain ⟨j, hj, rfl, hr0, hbE⟩ := hrel
            obtain ⟨wE, rfl⟩ : ∃ q : World, q = wr := ⟨_, rfl⟩
            have HR := Lib.hid hr0
            have hb6 : Below w6.heap.size w6 wE := HBX6.out.trans (hbE.mono hzB)
            clear hr0
            rcases (show j = 0 ∨ j = 1 ∨ j = 2 by omega) with rfl | rfl | rfl
            · skip
              obtain ⟨to, eto⟩ : ∃ to, toS M s false = to := ⟨_, rfl⟩
              have hto : to < S := by rw [← eto, ← HSS.out]; exact toS_lt false
              have htv : (2 * (s : Int) + bitI false) % 2 ^ M = (to : Int) := by rw [← eto]; exact toS_eq M s false
              have HTV := Lib.hid htv
              have HTO := Lib.hid eto
              clear htv eto
              have cd0 := (hb6.cell (p := ⟨w.heap.size, 0, none⟩) hz6).trans (HO6.out.cell 0)
              have HCD := Lib.hid cd0
              clear cd0
              go_wp2_with fail
              refine (spec_l07Next_c wE w.heap.size M s false (by omega) (by omega) hM1 hM4 HCD.out).mono ?_
              rintro e w' ⟨rfl, q1, rfl⟩
              rw [HTV.out]
              obtain ⟨wD, eD⟩ : ∃ W : World, W = wE.drewN q1 := ⟨_, rfl⟩
              rw [← eD]
              have rD : SRow 71 wD wB.heap.size S (bbT M ms pt la T s 0) := by rw [eD]; exact HR.out.drewN _
              have bD : Below wB.heap.size wX wD := by rw [eD]; exact below_drewN hbE _
              have b6D : Below w6.heap.size w6 wD := HBX6.out.trans (bD.mono hzB)
              have tD : SRow 71 wD b1 S T := HTX.out.below bD hb1z
              have c0 := (bD.cell (p := ⟨wA.heap.size, t, none⟩) hbz).trans HA0.out
              have c1 := (bD.cell (p := ⟨wA.heap.size, t + 1, none⟩) hbz).trans HA1.out
              obtain ⟨f2, y2, g0, g1, hg⟩ := tD.cells hto
              obtain ⟨f1, y1, d0, d1, hd⟩ := rD.cells hlt2
              have zD := bD.size
              cases f2
              · have hstep : bbT M ms pt la T s (0 + 1) = bbT M ms pt la T s 0 := by
                  have h9 := bbT_step (M := M) (ms := ms) (part := pt) (last := la) (a := T) (s := s) false
                  rw [bwdE_not (by rw [HTO.out]; exact hg.symm)] at h9
                  exact h9
                have HSTEP := Lib.hid hstep
                have HRD := Lib.hid rD
                clear hstep rD tD d0 d1 hd g1 hg eD
                go_wp2
                go_roundw
                case rel => exact ⟨0 + 1, by omega, by go_num, by rw [HSTEP.out]; exact HRD.out, bD⟩
                case measure => simp [intOf]
              · have HLD : Hid (∀ W, Below wD.heap.size wD W → W.cell? ⟨wA.heap.size, t, none⟩ = some (.slice (some ⟨wB.heap.size, 0, none⟩) S S) ∧ W.cell? ⟨wA.heap.size, t + 1, none⟩ = some (.slice (some ⟨b1, 0, none⟩) S S) ∧ W.cell? ⟨wB.heap.size, s * 2, none⟩ = some (.bool f1) ∧ W.cell? ⟨wB.heap.size, s * 2 + 1, none⟩ = some (.float .f32 y1) ∧ W.cell? ⟨b1, to * 2 + 1, none⟩ = some (.float .f32 y2)) :=
                  Lib.hid fun W hW => ⟨(hW.cell (p := ⟨wA.heap.size, t, none⟩) (by simp only []; omega)).trans c0, (hW.cell (p := ⟨wA.heap.size, t + 1, none⟩) (by simp only []; omega)).trans c1, (hW.cell (p := ⟨wB.heap.size, s * 2, none⟩) rD.lt).trans d0, (hW.cell (p := ⟨wB.heap.size, s * 2 + 1, none⟩) rD.lt).trans d1, (hW.cell (p := ⟨b1, to * 2 + 1, none⟩) tD.lt).trans g1⟩
                have HHF : Hid (∀ W, Below wD.heap.size wD W → Calls Try.prog 39 #[.pointer (some ⟨w.heap.size, 0, none⟩), .slice A2 n2 cap2, .int .i64 (t : Int), .int .i64 (s : Int), .bool false] W fun e w' => ∃ v, e = .returned (.float .f32 v) ∧ fl .f32 v = halfO ms pt s false ∧ Below W.heap.size W w') :=
                  Lib.hid fun W hW => HHALF.out W (b6D.trans (hW.mono b6D.size)) s (by omega) false
                clear d0 d1 g1 eD
                go_wp2_with fail
                clear c0 c1 g0
                refine wp_region_B (RvS (halfO ms pt s false)) 30 (D := wD.heap.size) (w0 := wD) (by kernel_rfl) (by kernel_rfl) (Below.refl _ _) ?_
                simp only [List.take_succ_cons, List.take_zero, List.drop_succ_cons, List.drop_zero]
                iterate 26 (refine wpRel_step (fun K hK => ?_); go_simp; intro W hW; obtain ⟨q0, q1, q2, q3, q4⟩ := HLD.out W hW; (try go_simp); (first | refine ⟨hW, hK _ ?_⟩ | refine hK _ ?_); clear q0 q1 q2 q3 q4 hK K hW W)
                refine wpRel_step (fun K hK => ?_)
                go_simp
                intro W hW
                refine ⟨half_B (Nat.le_refl _) hW (HHF.out W hW), fun v hv => ?_⟩
                obtain ⟨x3, rfl, hx3⟩ := rv_half hv
                refine hK _ ?_
                clear hK K hW W hv
                refine wpRel_step (fun K hK => ?_)
                go_simp
                intro W hW
                refine ⟨below_drewN hW _, hK _ ?_⟩
                clear hK K
                obtain ⟨z4, ez4⟩ : ∃ z, fres .add .f32 y2 x3 W.tape W.drawn = z := ⟨_, rfl⟩
                have Hz4 : Hid (fl .f32 z4 = fop .add .f32 (fl .f32 y2) (fl .f32 x3)) := Lib.hid (by rw [← ez4]; exact fl_fres ..)
                rw [ez4]
                clear ez4 hW W
                refine wpRel_step (fun K hK => ?_)
                go_simp
                intro W hW
                refine ⟨sjoin_B (Nat.le_refl _) hW _ _ _, fun v hv => ?_⟩
                obtain ⟨z5, rfl, hz5⟩ := rv_sjoin hv
                refine hK _ ?_
                clear hK K hW W hv
                iterate 1 (refine wpRel_step (fun K hK => ?_); go_simp; intro W hW; obtain ⟨q0, q1, q2, q3, q4⟩ := HLD.out W hW; (try go_simp); (first | refine ⟨hW, hK _ ?_⟩ | refine hK _ ?_); clear q0 q1 q2 q3 q4 hK K hW W)
                refine wpRel_nil ?_
                intro W hW
                have rW := rD.below hW rD.lt
                obtain ⟨f3, y3, t0, t1, _⟩ := rW.cells hlt2
                have u0 := rW.frz (s * 2)
                have u1 := rW.frz (s * 2 + 1)
                have HRW := Lib.hid rW
                have HV : Hid (stO true z5 = joinS ((bbT M ms pt la T s 0).getD s none) (plusS (T.getD to none) (halfO ms pt s false))) := Lib.hid (by rw [hz5, Hz4.out, hx3, hd, ← hg]; rfl)
                have hbWW : Below wB.heap.size wX W := bD.trans (hW.mono (by omega))
                clear rW hz5 hx3
                go_wp2
                go_roundw
                case rel =>
                  refine ⟨0 + 1, by omega, by go_num, ?_, Below.setCell (p := ⟨wB.heap.size, s * 2 + 1, none⟩) (Below.setCell (p := ⟨wB.heap.size, s * 2, none⟩) hbWW (Nat.le_refl _) _) (Nat.le_refl _) _⟩
                  have h9 := bbT_step (M := M) (ms := ms) (part := pt) (last := la) (a := T) (s := s) false
                  rw [bwdE_yes (show (false && la) = false from rfl), HTO.out] at h9
                  have h8 := SRow.put HRW.out (to := s) hlt2 true z5 _ HV.out
                  have e9 : bbT M ms pt la T s (0 + 1) = ((bbT M ms pt la T s 0).set s (joinS ((bbT M ms pt la T s 0).getD s none) (plusS (T.getD to none) (halfO ms pt s false)))) := h9
                  rw [e9]
                  exact h8
                case measure => simp [intOf]
            · cases la
              · have hnt : ¬ n ≤ t := of_decide_eq_false HLA.out
                obtain ⟨to, eto⟩ : ∃ to, toS M s true = to := ⟨_, rfl⟩
                have hto : to < S := by rw [← eto, ← HSS.out]; exact toS_lt true
                have htv : (2 * (s : Int) + bitI true) % 2 ^ M = (to : Int) := by rw [← eto]; exact toS_eq M s true
                have HTV := Lib.hid htv
                have HTO := Lib.hid eto
                clear htv eto
                have cd0 := (hb6.cell (p := ⟨w.heap.size, 0, none⟩) hz6).trans (HO6.out.cell 0)
                have HCD := Lib.hid cd0
                clear cd0
                go_wp2_with fail
                refine (spec_l07Next_c wE w.heap.size M s true (by omega) (by omega) hM1 hM4 HCD.out).mono ?_
                rintro e w' ⟨rfl, q1, rfl⟩
                rw [HTV.out]
                obtain ⟨wD, eD⟩ : ∃ W : World, W = wE.drewN q1 := ⟨_, rfl⟩
                rw [← eD]
                have rD : SRow 71 wD wB.heap.size S (bbT M ms pt false T s 1) := by rw [eD]; exact HR.out.drewN _
                have bD : Below wB.heap.size wX wD := by rw [eD]; exact below_drewN hbE _
                have b6D : Below w6.heap.size w6 wD := HBX6.out.trans (bD.mono hzB)
                have tD : SRow 71 wD b1 S T := HTX.out.below bD hb1z
                have c0 := (bD.cell (p := ⟨wA.heap.size, t, none⟩) hbz).trans HA0.out
                have c1 := (bD.cell (p := ⟨wA.heap.size, t + 1, none⟩) hbz).trans HA1.out
                obtain ⟨f2, y2, g0, g1, hg⟩ := tD.cells hto
                obtain ⟨f1, y1, d0, d1, hd⟩ := rD.cells hlt2
                have zD := bD.size
                cases f2
                · have hstep : bbT M ms pt false T s (1 + 1) = bbT M ms pt false T s 1 := by
                    have h9 := bbT_step (M := M) (ms := ms) (part := pt) (last := false) (a := T) (s := s) true
                    rw [bwdE_not (by rw [HTO.out]; exact hg.symm)] at h9
                    exact h9
                  have HSTEP := Lib.hid hstep
                  have HRD := Lib.hid rD
                  clear hstep rD tD d0 d1 hd g1 hg eD
                  go_wp2
                  go_roundw
                  case rel => exact ⟨1 + 1, by omega, by go_num, by rw [HSTEP.out]; exact HRD.out, bD⟩
                  case measure => simp [intOf]
                · have HLD : Hid (∀ W, Below wD.heap.size wD W → W.cell? ⟨wA.heap.size, t, none⟩ = some (.slice (some ⟨wB.heap.size, 0, none⟩) S S) ∧ W.cell? ⟨wA.heap.size, t + 1, none⟩ = some (.slice (some ⟨b1, 0, none⟩) S S) ∧ W.cell? ⟨wB.heap.size, s * 2, none⟩ = some (.bool f1) ∧ W.cell? ⟨wB.heap.size, s * 2 + 1, none⟩ = some (.float .f32 y1) ∧ W.cell? ⟨b1, to * 2 + 1, none⟩ = some (.float .f32 y2)) :=
                    Lib.hid fun W hW => ⟨(hW.cell (p := ⟨wA.heap.size, t, none⟩) (by simp only []; omega)).trans c0, (hW.cell (p := ⟨wA.heap.size, t + 1, none⟩) (by simp only []; omega)).trans c1, (hW.cell (p := ⟨wB.heap.size, s * 2, none⟩) rD.lt).trans d0, (hW.cell (p := ⟨wB.heap.size, s * 2 + 1, none⟩) rD.lt).trans d1, (hW.cell (p := ⟨b1, to * 2 + 1, none⟩) tD.lt).trans g1⟩
                  have HHF : Hid (∀ W, Below wD.heap.size wD W → Calls Try.prog 39 #[.pointer (some ⟨w.heap.size, 0, none⟩), .slice A2 n2 cap2, .int .i64 (t : Int), .int .i64 (s : Int), .bool true] W fun e w' => ∃ v, e = .returned (.float .f32 v) ∧ fl .f32 v = halfO ms pt s true ∧ Below W.heap.size W w') :=
                    Lib.hid fun W hW => HHALF.out W (b6D.trans (hW.mono b6D.size)) s (by omega) true
                  clear d0 d1 g1 eD
                  go_wp2_with fail
                  clear c0 c1 g0
                  refine wp_region_B (RvS (halfO ms pt s true)) 30 (D := wD.heap.size) (w0 := wD) (by kernel_rfl) (by kernel_rfl) (Below.refl _ _) ?_
                  simp only [List.take_succ_cons, List.take_zero, List.drop_succ_cons, List.drop_zero]
                  iterate 26 (refine wpRel_step (fun K hK => ?_); go_simp; intro W hW; obtain ⟨q0, q1, q2, q3, q4⟩ := HLD.out W hW; (try go_simp); (first | refine ⟨hW, hK _ ?_⟩ | refine hK _ ?_); clear q0 q1 q2 q3 q4 hK K hW W)
                  refine wpRel_step (fun K hK => ?_)
                  go_simp
                  intro W hW
                  refine ⟨half_B (Nat.le_refl _) hW (HHF.out W hW), fun v hv => ?_⟩
                  obtain ⟨x3, rfl, hx3⟩ := rv_half hv
                  refine hK _ ?_
                  clear hK K hW W hv
                  refine wpRel_step (fun K hK => ?_)
                  go_simp
                  intro W hW
                  refine ⟨below_drewN hW _, hK _ ?_⟩
                  clear hK K
                  obtain ⟨z4, ez4⟩ : ∃ z, fres .add .f32 y2 x3 W.tape W.drawn = z := ⟨_, rfl⟩
                  have Hz4 : Hid (fl .f32 z4 = fop .add .f32 (fl .f32 y2) (fl .f32 x3)) := Lib.hid (by rw [← ez4]; exact fl_fres ..)
                  rw [ez4]
                  clear ez4 hW W
                  refine wpRel_step (fun K hK => ?_)
                  go_simp
                  intro W hW
                  refine ⟨sjoin_B (Nat.le_refl _) hW _ _ _, fun v hv => ?_⟩
                  obtain ⟨z5, rfl, hz5⟩ := rv_sjoin hv
                  refine hK _ ?_
                  clear hK K hW W hv
                  iterate 1 (refine wpRel_step (fun K hK => ?_); go_simp; intro W hW; obtain ⟨q0, q1, q2, q3, q4⟩ := HLD.out W hW; (try go_simp); (first | refine ⟨hW, hK _ ?_⟩ | refine hK _ ?_); clear q0 q1 q2 q3 q4 hK K hW W)
                  refine wpRel_nil ?_
                  intro W hW
                  have rW := rD.below hW rD.lt
                  obtain ⟨f3, y3, t0, t1, _⟩ := rW.cells hlt2
                  have u0 := rW.frz (s * 2)
                  have u1 := rW.frz (s * 2 + 1)
                  have HRW := Lib.hid rW
                  have HV : Hid (stO true z5 = joinS ((bbT M ms pt false T s 1).getD s none) (plusS (T.getD to none) (halfO ms pt s true))) := Lib.hid (by rw [hz5, Hz4.out, hx3, hd, ← hg]; rfl)
                  have hbWW : Below wB.heap.size wX W := bD.trans (hW.mono (by omega))
                  clear rW hz5 hx3
                  go_wp2
                  go_roundw
                  case rel =>
                    refine ⟨1 + 1, by omega, by go_num, ?_, Below.setCell (p := ⟨wB.heap.size, s * 2 + 1, none⟩) (Below.setCell (p := ⟨wB.heap.size, s * 2, none⟩) hbWW (Nat.le_refl _) _) (Nat.le_refl _) _⟩
                    have h9 := bbT_step (M := M) (ms := ms) (part := pt) (last := false) (a := T) (s := s) true
                    rw [bwdE_yes (show (true && false) = false from rfl), HTO.out] at h9
                    have h8 := SRow.put HRW.out (to := s) hlt2 true z5 _ HV.out
                    have e9 : bbT M ms pt false T s (1 + 1) = ((bbT M ms pt false T s 1).set s (joinS ((bbT M ms pt false T s 1).getD s none) (plusS (T.getD to none) (halfO ms pt s true)))) := h9
                    rw [e9]
                    exact h8
                  case measure => simp [intOf]
              · have hnt : n ≤ t := of_decide_eq_true HLA.out
                have hstep : bbT M ms pt true T s (1 + 1) = bbT M ms pt true T s 1 := (bbT_step true).trans bwdE_last
                have HSTEP := Lib.hid hstep
                have cd0 := (hb6.cell (p := ⟨w.heap.size, 0, none⟩) hz6).trans (HO6.out.cell 0)
                have HCD := Lib.hid cd0
                clear hstep cd0
                go_wp2_with fail
                refine (spec_l07Next_c wE w.heap.size M s true (by omega) (by omega) hM1 hM4 HCD.out).mono ?_
                rintro e w' ⟨rfl, q1, rfl⟩
                go_wp2
                go_roundw
                case rel => exact ⟨1 + 1, by omega, by go_num, by rw [HSTEP.out]; exact HR.out, below_drewN hbE _⟩
                case measure => simp [intOf]
            · go_wp2
              go_roundw
              case rel => exact ⟨s + 1, by omega, by go_num, HR.out, hbE⟩
              case measure => simp [intOf]; omega
        · obtain rfl : s = S := by omega
          go_wp2
          go_roundw
          case rel => exact ⟨t, (t : Int) - 1, by omega, rfl, by go_num, HEND.out wC HB0.out HR0.out⟩
          case measure => show ((t : Int) - 1 + 1).toNat < ((t : Int) + 1).toNat; omega
    | zero =>
      obtain rfl : m = -1 := by omega
      clear hm
      go_upto_region 39 with fail
      refine wp_region_lit ?_
      refine wpList_step (fun K2 hK2 => ?_)
      go_simp
      refine hK2 _ _ ?_
      clear hK2 K2
      refine wpList_nil ?_
      go_simp
      refine (‹∀ (a : Act) (w : World), Code.wp Try.prog _ _ a w → _› _ _ ?_ : _)
      exact tail39 w w6 wA M hM1 hM4 A k cap ms hl hk1 hk4 hr A2 n2 cap2 xs hl2 hcap n N S g cg bs hn hnN hN44 hS16 hS1 HSS HN HNNN HNO HYES HB6 hz6 HO6 HX6 HY6 hbr hgA HGA HBL HAR wB _ hB (own_empty _ _ _ (Nat.le_refl _)) ((Below.refl _ _).alloc (Nat.le_refl _) _) _ ‹_› _ _ _ _ _ _ _ _ _ _ _ _ _ _ _ _ _ _ _ _ _ _ _ _ _ _ _ _ _ _ _ _ _ _ _ _ _ _ _ _ _ _ _ _ _ _ _ _ _ _ _ _ _ _ _ _ _ _ _ _ _ _ _ _ _ _ _ _ _ _ _ _ _ _ _ _ _ _ _ _ _ _ _ _ _ _ _ _ _ _ _ _ _ _ _ _ _ _ _ _ _ _ _ _ _ _ _ _ _ _ _ _ _ _ _ _ _ _ _ _ _ _ _ _ _ _ _ _ _ _ _ _ _ _ _ _ _ _ _ _ _ _ _ _ _ _ _ _ _ _ _ _ _ _ _ _ _ _ _ _ _ _ _ _ _ _ _ _ _ _ _ _ _ _ _ _ _ _ _ _ _ _ _ _ _ _ _ _ _ _ _ _ _ _ _ _ _ _ _ _ _ _ _ _ _ _ _ _ _ _ _ _ _ _ _ _ _ _ _ _ _ _ _ _ _ _ _ _ _ _ _ _ _ _ _ _ _ _ _ _ _ _ _ _ _ _ _ _ _ _ _ _ _ _ _ _ _ _ _ _ _ _ _ _ _ _ _ _ _ _ _ _ _ _ _ _ _ _ _ _ _ _ _ _ _ _ _ _ _ _ _ _ _ _ _ _ _ _

end Go.Proofs.Ytopeidmafalklaa


namespace Go.Proofs.Ytopeidmafalklaa
open Go.RowKit Go.Shelf


set_option maxRecDepth 100000 in
set_option maxHeartbeats 8000000 in
theorem spec_AllWays_c (w : World) (m : Int) (A : Option Addr) (k cap : Nat) (ms : List Int) (hl : ms.length = k) (hk : k ≤ 1048576) (hx : Sl w w.heap.size A (ms.map (Value.int .i64)))
    (A2 : Option Addr) (n2 cap2 : Nat) (xs : List Nat) (hl2 : xs.length = n2) (hn2 : n2 ≤ 1048576) (hy : Sl w w.heap.size A2 (xs.map (Value.float .f32))) (hA : RowA A2 n2 cap2) :
    Calls Try.prog 6 #[.agg #[.int .i64 m, .slice A k cap], .slice A2 n2 cap2] w (AllPost w m ms xs) := by
  obtain ⟨w1, e1⟩ : ∃ q : World, q = w.alloc (.cells #[.int .i64 m, .slice A k cap] 29) := ⟨_, rfl⟩
  have b1 : Below w.heap.size w w1 := by rw [e1]; exact (Below.refl _ _).alloc (Nat.le_refl _) _
  have z1 : w1.heap.size = w.heap.size + 1 := by rw [e1]; simp
  have hO : Obj w1 w.heap.size 29 #[.int .i64 m, .slice A k cap] := by rw [e1]; exact Obj.new _ _ _
  have C0 : w1.cell? ⟨w.heap.size, 0, none⟩ = some (.int .i64 m) := hO.cell 0
  have C1 : w1.cell? ⟨w.heap.size, 1, none⟩ = some (.slice A k cap) := hO.cell 1
  have HC := Lib.hid (spec_l07Coder_c w1 w.heap.size m w.heap.size A k cap ms C0 C1 hl hk (hx.below b1))
  have HS := Lib.hid (fun q : Nat => spec_l07Soft_c (w1.drewN q) w.heap.size A2 n2 cap2 xs hl2 ((hy.below b1).drewN q))
  have hcap : n2 ≤ cap2 := by
    rcases hA with ⟨_, h1, h2⟩ | ⟨_, _, h, _⟩
    · omega
    · exact h
  have HX := Lib.hid (hx.below b1)
  have HY := Lib.hid (hy.below b1)
  have HO := Lib.hid hO
  have HC0 := Lib.hid C0
  have HC1 := Lib.hid C1
  clear hx hy hO C0 C1
  cases hv : validCoderB m ms
  · have hbo : allOk m ms xs = false := allw_not (by unfold sentOk sentB; rw [hv]; rfl)
    rw [hv] at HC
    have HBO := Lib.hid hbo
    clear hv hbo
    go_enter Try.func6, Try.ntmps6
    go_wp2_with (rw [← e1]; clear e1)
    refine HC.out.mono ?_
    rintro e w2 ⟨rfl, q, rfl⟩
    go_wp2
    go_ret2
    exact all_fail HBO.out (below_drewN b1 q)
  · rw [hv] at HC
    obtain ⟨hm1, hm4, hk1, hk4, hr⟩ := vc_facts hv
    rw [hl] at hk1 hk4
    have HL := Lib.hid (fun q : Nat => spec_l07Long_c (w1.drewN q) w.heap.size m (by omega) hm4 A k cap hk1 hk4 HC0.out HC1.out A2 n2 cap2 hn2)
    cases hs : softB xs
    · have hbo : allOk m ms xs = false := allw_not (by unfold sentOk sentB; rw [hs, Bool.and_false]; rfl)
      rw [hs] at HS
      have HBO := Lib.hid hbo
      clear hv hbo hs
      go_enter Try.func6, Try.ntmps6
      go_wp2_with (rw [← e1]; clear e1)
      refine HC.out.mono ?_
      rintro e w2 ⟨rfl, q, rfl⟩
      go_wp2_with fail
      refine (HS.out q).mono ?_
      rintro e w3 ⟨rfl, q3, rfl⟩
      go_wp2
      go_ret2
      exact all_fail HBO.out (below_drewN b1 _)
    · rw [hs] at HS
      have hneg := long_neg hv hs
      rw [hl, hl2] at hneg
      cases ho : sentOk m ms xs
      · have hbo : allOk m ms xs = false := allw_not ho
        rw [ho] at hneg
        have HBO := Lib.hid hbo
        obtain ⟨z, hz⟩ : ∃ z, longV m k n2 = z := ⟨_, rfl⟩
        rw [hz] at HL hneg
        have hneg2 : decide (z < 0) = true := hneg
        clear hv hbo hs ho hneg hz
        go_enter Try.func6, Try.ntmps6
        go_wp2_with (rw [← e1]; clear e1)
        refine HC.out.mono ?_
        rintro e w2 ⟨rfl, q, rfl⟩
        go_wp2_with fail
        refine (HS.out q).mono ?_
        rintro e w3 ⟨rfl, q3, rfl⟩
        rw [World.drewN_drewN]
        go_wp2_with fail
        refine (HL.out _).mono ?_
        rintro e w4 ⟨rfl, q4, rfl⟩
        go_wp2
        go_ret2
        exact all_fail HBO.out (below_drewN b1 _)
      · obtain ⟨M, n, rfl, hM1, hM4, -, -, -, hn, hsn, hnn, hx160⟩ := sent_facts ho
        rw [hl, hl2] at hnn
        have hly := long_yes ho
        rw [hl, hl2, hsn] at hly
        rw [hly] at HL hneg
        have hneg2 : decide ((n : Int) < 0) = false := by rw [hneg, ho]; rfl
        have hno : outT M ms xs n n = none → allOk (M : Int) ms xs = false := fun h => all_none hsn h
        have hyes : ∀ l, outT M ms xs n n = some l → allOk (M : Int) ms xs = l.all finB ∧ (l.all finB = true → allL (M : Int) ms xs = l) := fun l h => all_some ho hsn h
        obtain ⟨S, hS⟩ : ∃ S : Nat, 2 ^ M = S := ⟨_, rfl⟩
        have hSI : (2 : Int) ^ M = (S : Int) := by rw [← hS]; push_cast; rfl
        have hS16 : S ≤ 16 := by rw [← hS]; exact Nat.pow_le_pow_right (n := 2) (by decide) hM4
        have hS1 : 1 ≤ S := by rw [← hS]; exact Nat.pow_pos (by decide)
        have hsh : wrap64 (2 ^ M) = (S : Int) := by rw [hSI]; exact IntWalk.wrap64_in _ (by omega)
        have hmk := fun W : World => run_mkSum S (Nat.le_trans hS16 (by decide)) .i64 .i64 W
        have HSS := Lib.hid hS
        have HSI := Lib.hid hSI
        have HSH := Lib.hid hsh
        have HNN := Lib.hid hnn
        have HNO := Lib.hid hno
        have HYES := Lib.hid hyes
        clear hv hs ho hneg hly hsn hno hyes hS hSI hsh hnn
        go_enter Try.func6, Try.ntmps6
        go_wp2_with (rw [← e1]; clear e1)
        refine HC.out.mono ?_
        rintro e w2 ⟨rfl, q, rfl⟩
        go_wp2_with fail
        refine (HS.out q).mono ?_
        rintro e w3 ⟨rfl, q3, rfl⟩
        rw [World.drewN_drewN]
        go_wp2_with fail
        refine (HL.out _).mono ?_
        rintro e w4 ⟨rfl, q4, rfl⟩
        rw [World.drewN_drewN]
        go_wp2_with fail
        refine (HL.out _).mono ?_
        rintro e w5 ⟨rfl, q5, rfl⟩
        rw [World.drewN_drewN]
        obtain ⟨w6, e6⟩ : ∃ q0 : World, q0 = w1.drewN (q + q3 + q4 + q5) := ⟨_, rfl⟩
        rw [← e6]
        have c0 : w6.cell? ⟨w.heap.size, 0, none⟩ = some (.int .i64 (M : Int)) := by rw [e6]; exact HC0.out
        have B6 : Below w.heap.size w w6 := by rw [e6]; exact below_drewN b1 _
        have O6 : Obj w6 w.heap.size 29 #[.int .i64 (M : Int), .slice A k cap] := by rw [e6]; exact HO.out
        have Y6 : Sl w6 w.heap.size A2 (xs.map (Value.float .f32)) := by rw [e6]; exact HY.out.drewN _
        have X6 : Sl w6 w.heap.size A (ms.map (Value.int .i64)) := by rw [e6]; exact HX.out.drewN _
        have z6 : w6.heap.size = w.heap.size + 1 := by rw [e6]; exact z1
        clear e6 HC HS HL HX HY HO HC0 HC1 b1 z1
        obtain ⟨w7, e7⟩ : ∃ q0 : World, q0 = (w6.alloc (.cells (madeCells #[Value.bool false, .float .f32 0] (S * 2)) 71)).alloc (.cells #[.slice (some ⟨w6.heap.size, 0, none⟩) S S] 68) := ⟨_, rfl⟩
        have hz6 : w.heap.size + 1 ≤ w6.heap.size := by omega
        have R7 : SRow 71 w7 w6.heap.size S (noneR S) := by rw [e7]; exact (SRow.new 71 w6 S).alloc _
        have Q7 : Ow w7 w6.heap.size 68 (.slice (some ⟨w6.heap.size + 1, 0, none⟩) 1 1) ([w6.heap.size].map (rV S)) := by
          have h : World.ownsRow ((w6.alloc (.cells (madeCells #[Value.bool false, .float .f32 0] (S * 2)) 71)).alloc (.cells #[.slice (some ⟨w6.heap.size, 0, none⟩) S S] 68)) w6.heap.size 68 1 (.slice (some ⟨(w6.alloc (.cells (madeCells #[Value.bool false, .float .f32 0] (S * 2)) 71)).heap.size, 0, none⟩) 1 1) 1 [.slice (some ⟨w6.heap.size, 0, none⟩) S S] :=
            World.ownsRow_lit _ #[.slice (some ⟨w6.heap.size, 0, none⟩) S S] 1 (by simp) (by simp [maxLen]) rfl
          rw [World.size_alloc] at h
          rw [e7]; exact h
        have B7 : Below w6.heap.size w6 w7 := by rw [e7]; exact ((Below.refl _ _).alloc (Nat.le_refl _) _).alloc (by simp) _
        have z7 : w7.heap.size = w6.heap.size + 1 + 1 := by rw [e7]; simp
        obtain ⟨f0, y0, d0, d1, d2⟩ := R7.cells (s := 0) (by omega)
        have u0 := R7.frz 0
        have u1 := R7.frz (0 * 2 + 1)
        rw [Nat.zero_mul] at d0 d1 u1
        have g0 : w7.cell? ⟨w6.heap.size + 1, 0, none⟩ = some (.slice (some ⟨w6.heap.size, 0, none⟩) S S) := (World.ownsRow.cellAt Q7 0 (by decide)).trans rfl
        have HR7 := Lib.hid R7
        have HQ7 := Lib.hid Q7
        have HB7 := Lib.hid B7
        have HO6 := Lib.hid O6
        have HX6 := Lib.hid X6
        have HY6 := Lib.hid Y6
        have HB6 := Lib.hid B6
        have HZ7 := Lib.hid z7
        clear R7 Q7 O6 z6 z7 B7 B6 X6 Y6
        go_wp2_with (first | rw [HSH.out] | (rw [← e7]; clear e7))
        clear hmk
        go_loopw [9, 10] (fun v9 i wr => ∃ t : Nat, t ≤ n + M ∧ i = .int .i64 t ∧ FwdRel w6 S (fwdT M ms xs n) (t + 1) v9 wr) (fun _ i _ => n + M - (intOf i).toNat)
        case atStart =>
          have hput := SRow.put HR7.out (to := 0) (by omega) true 0 (some (some 0)) (by unfold stO; rw [if_pos rfl, fl0])
          rw [Nat.zero_mul, Nat.zero_add] at hput
          have hb := Below.setCell (p := ⟨w6.heap.size, 1, none⟩) (Below.setCell (p := ⟨w6.heap.size, 0, none⟩) HB7.out (Nat.le_refl _) (.bool true)) (Nat.le_refl _) (.float .f32 0)
          refine ⟨0, Nat.zero_le _, rfl, [w6.heap.size], rfl, ⟨?_, fun i hi => ?_⟩, hb⟩
          · exact own_set_other (own_set_other HQ7.out (by simp) _) (by simp) _
          · obtain rfl : i = 0 := by simpa using hi
            refine ⟨Nat.le_refl _, ?_⟩
            show SRow _ _ w6.heap.size S (oneR (2 ^ M))
            rw [HSS.out]
            exact hput
        case round =>
          clear d2 d0 d1 u0 u1 g0 c0
          obtain ⟨t, ht, rfl, bs, hbl, hAR, hbr⟩ := hrel
          obtain ⟨wA, rfl⟩ : ∃ q : World, q = wr := ⟨_, rfl⟩
          have hbw6 := HB6.out
          have hzA := hbr.size
          by_cases hlt : t < n + M
          · have hltd : decide ((t : Int) < (n : Int) + (M : Int)) = true := decide_eq_true (by omega)
            have hget := hAR.get (i := t) (by omega)
            rw [hbl] at hget
            obtain ⟨g, cg, rfl, hg6, hgA, hgc⟩ := hget
            obtain ⟨_, hbT⟩ := hAR.2 t (by omega)
            obtain ⟨bt, ebt⟩ : ∃ b, bs.getD t 0 = b := ⟨_, rfl⟩
            obtain ⟨T, eT⟩ : ∃ T, fwdT M ms xs n t = T := ⟨_, rfl⟩
            obtain ⟨pt, ept⟩ : ∃ pt, partL k xs t = pt := ⟨_, rfl⟩
            obtain ⟨la, ela⟩ : ∃ la, decide (n ≤ t) = la := ⟨_, rfl⟩
            have htab : fwdT M ms xs n (t + 1) = fwdR M ms pt la T S := by rw [← HSS.out, ← ept, ← ela, ← eT, ← hl]; rfl
            rw [ebt] at hgc hbT
            rw [eT] at hbT
            have hbt := hbT.lt
            have htI : (t : Int) < (t : Int) + 1 := by omega
            have hlo3 : (t + 1) * k ≤ n2 := by rw [← HNN.out]; exact Nat.mul_le_mul_right k (by omega)
            have HHALF : Hid (∀ W, Below w6.heap.size w6 W → ∀ (s : Nat), s ≤ 15 → ∀ c : Bool, Calls Try.prog 39 #[.pointer (some ⟨w.heap.size, 0, none⟩), .slice A2 n2 cap2, .int .i64 (t : Int), .int .i64 (s : Int), .bool c] W fun e w' => ∃ v, e = .returned (.float .f32 v) ∧ fl .f32 v = halfO ms pt s c ∧ Below W.heap.size W w') :=
              Lib.hid fun W hW s hs c => by
                rw [← ept]
                have bw := HB6.out.trans (hW.mono HB6.out.size)
                exact spec_l07Half_c W w.heap.size A k cap ms hl hk1 hk4 hr (Nat.lt_of_lt_of_le hz6 hW.size) (((hW.cell (p := ⟨w.heap.size, 1, none⟩) hz6)).trans (HO6.out.cell 1)) ((HX6.out.below (hW.mono HB6.out.size)).more bw.size) A2 n2 cap2 xs hl2 ((HY6.out.below (hW.mono HB6.out.size)).more bw.size) hcap t hlo3 (by omega) s hs c
            have HBT := Lib.hid hbT
            have HGC := Lib.hid hgc
            have HAR := Lib.hid hAR
            have HTAB := Lib.hid htab
            have HLA := Lib.hid ela
            have HBS := Lib.hid ebt
            have HBL := Lib.hid hbl
            have R1 := SRow.new 71 wA S
            have HR1 := Lib.hid R1
            have hmk := fun W : World => run_mkSum S (Nat.le_trans hS16 (by decide)) .i64 .i64 W
            clear hAR hbT hgc htab ela ebt hbl R1 ept eT
            go_wp2
            clear hmk
            go_loopw [12] (fun i wr => ∃ s : Nat, s ≤ S ∧ i = .int .i64 s ∧ SRow 71 wr wA.heap.size S (fwdR M ms pt la T s) ∧ Below wA.heap.size wA wr) (fun i _ => S - (intOf i).toNat)
            case atStart =>
              refine ⟨0, Nat.zero_le _, rfl, ?_, (Below.refl _ _).alloc (Nat.le_refl _) _⟩
              show SRow _ _ _ _ (noneR (2 ^ M))
              rw [HSS.out]
              exact HR1.out
            case round =>
              obtain ⟨s, hs, rfl, hr0, hb⟩ := hrel
              obtain ⟨wC, rfl⟩ : ∃ q : World, q = wr := ⟨_, rfl⟩
              have HR0 := Lib.hid hr0
              have HB0 := Lib.hid hb
              clear hr0 hb
              by_cases hlt2 : s < S
              · obtain ⟨f2, y2, g0, g1, hg⟩ := HBT.out.cells hlt2
                have HTS := Lib.hid hg.symm
                have HY2 := Lib.hid g1
                have c0 := (HB0.out.cell (p := ⟨g, t, none⟩) hgA).trans HGC.out
                have c1 := (HB0.out.cell (p := ⟨bt, s * 2, none⟩) hbt).trans g0
                have HG0 := Lib.hid g0
                unfold rV at c0
                clear hg g0 g1
                cases f2
                · go_wp2
                  go_loopw [13] (fun j w1 => j = .int .i64 0 ∧ ∃ q, w1 = wC.drewN q) (fun _ _ => 0)
                  case atStart => exact ⟨rfl, 0, rfl⟩
                  case round =>
                    obtain ⟨rfl, q, rfl⟩ := hrel
                    go_wp2
                    go_roundw
                    case rel => exact ⟨s + 1, hlt2, by go_num, by rw [fwdR_not HTS.out]; exact HR0.out, below_drewN HB0.out _⟩
                    case measure => simp [intOf]; omega
                · go_wp2
                  go_loopw [13] (fun i wr => ∃ j : Nat, j ≤ 2 ∧ i = .int .i64 j ∧ SRow 71 wr wA.heap.size S (fbT M ms pt la T s j) ∧ Below wA.heap.size wA wr) (fun i _ => 2 - (intOf i).toNat)
                  case atStart => exact ⟨0, by omega, rfl, HR0.out, HB0.out⟩
                  case round =>
                    clear c0 c1 HR0 HB0
                    obtain ⟨j, hj, rfl, hr0, hbE⟩ := hrel
                    obtain ⟨wE, rfl⟩ : ∃ q : World, q = wr := ⟨_, rfl⟩
                    have HR := Lib.hid hr0
                    have hb6 : Below w6.heap.size w6 wE := hbr.trans (hbE.mono hzA)
                    have c0 := (hbE.cell (p := ⟨g, t, none⟩) hgA).trans HGC.out
                    have c1 := (hbE.cell (p := ⟨bt, s * 2, none⟩) hbt).trans HG0.out
                    unfold rV at c0
                    clear hr0
                    rcases (show j = 0 ∨ j = 1 ∨ j = 2 by omega) with rfl | rfl | rfl
                    · skip
                      obtain ⟨to, eto⟩ : ∃ to, toS M s false = to := ⟨_, rfl⟩
                      have hto : to < S := by rw [← eto, ← HSS.out]; exact toS_lt false
                      have htv : (2 * (s : Int) + bitI false) % 2 ^ M = (to : Int) := by rw [← eto]; exact toS_eq M s false
                      have HTV := Lib.hid htv
                      have HTO := Lib.hid eto
                      clear htv eto
                      have cd0 := (hb6.cell (p := ⟨w.heap.size, 0, none⟩) hz6).trans (HO6.out.cell 0)
                      go_wp2_with fail
                      refine (spec_l07Next_c wE w.heap.size M s false (by omega) (by omega) hM1 hM4 cd0).mono ?_
                      rintro e w' ⟨rfl, q1, rfl⟩
                      rw [HTV.out]
                      obtain ⟨wD, eD⟩ : ∃ W : World, W = wE.drewN q1 := ⟨_, rfl⟩
                      rw [← eD]
                      have rD : SRow 71 wD wA.heap.size S (fbT M ms pt la T s 0) := by rw [eD]; exact HR.out.drewN _
                      have bD : Below wA.heap.size wA wD := by rw [eD]; exact below_drewN hbE _
                      have b6D : Below w6.heap.size w6 wD := hbr.trans (bD.mono hzA)
                      have tD : SRow 71 wD bt S T := HBT.out.below bD hbt
                      obtain ⟨f1, y1, d0, d1, hd⟩ := rD.cells hto
                      have aD : wD.cell? ⟨g, t, none⟩ = some (rV S bt) := (bD.cell (p := ⟨g, t, none⟩) hgA).trans HGC.out
                      have hy2 : wD.cell? ⟨bt, s * 2 + 1, none⟩ = some (.float .f32 y2) := (bD.cell (p := ⟨bt, s * 2 + 1, none⟩) hbt).trans HY2.out
                      have HLD : Hid (∀ W, Below wD.heap.size wD W → W.cell? ⟨wA.heap.size, to * 2, none⟩ = some (.bool f1) ∧ W.cell? ⟨wA.heap.size, to * 2 + 1, none⟩ = some (.float .f32 y1) ∧ W.cell? ⟨g, t, none⟩ = some (.slice (some ⟨bt, 0, none⟩) S S) ∧ W.cell? ⟨bt, s * 2 + 1, none⟩ = some (.float .f32 y2)) :=
                        Lib.hid fun W hW => ⟨(hW.cell (p := ⟨wA.heap.size, to * 2, none⟩) rD.lt).trans d0, (hW.cell (p := ⟨wA.heap.size, to * 2 + 1, none⟩) rD.lt).trans d1, (hW.cell (p := ⟨g, t, none⟩) (Nat.lt_of_lt_of_le hgA bD.size)).trans aD, (hW.cell (p := ⟨bt, s * 2 + 1, none⟩) tD.lt).trans hy2⟩
                      have HHF : Hid (∀ W, Below wD.heap.size wD W → Calls Try.prog 39 #[.pointer (some ⟨w.heap.size, 0, none⟩), .slice A2 n2 cap2, .int .i64 (t : Int), .int .i64 (s : Int), .bool false] W fun e w' => ∃ v, e = .returned (.float .f32 v) ∧ fl .f32 v = halfO ms pt s false ∧ Below W.heap.size W w') :=
                        Lib.hid fun W hW => HHALF.out W (b6D.trans (hW.mono b6D.size)) s (by omega) false
                      clear d0 d1 hy2 aD cd0 eD
                      go_wp2_with fail
                      refine wp_region_B (RvS (halfO ms pt s false)) 23 (D := wD.heap.size) (w0 := wD) (by kernel_rfl) (by kernel_rfl) (Below.refl _ _) ?_
                      simp only [List.take_succ_cons, List.take_zero, List.drop_succ_cons, List.drop_zero]
                      iterate 19 (refine wpRel_step (fun K hK => ?_); go_simp; intro W hW; obtain ⟨q0, q1, q2, q3⟩ := HLD.out W hW; (try go_simp); (first | refine ⟨hW, hK _ ?_⟩ | refine hK _ ?_); clear q0 q1 q2 q3 hK K hW W)
                      refine wpRel_step (fun K hK => ?_)
                      go_simp
                      intro W hW
                      refine ⟨half_B (Nat.le_refl _) hW (HHF.out W hW), fun v hv => ?_⟩
                      obtain ⟨x3, rfl, hx3⟩ := rv_half hv
                      refine hK _ ?_
                      clear hK K hW W hv
                      refine wpRel_step (fun K hK => ?_)
                      go_simp
                      intro W hW
                      refine ⟨below_drewN hW _, hK _ ?_⟩
                      clear hK K
                      obtain ⟨z4, ez4⟩ : ∃ z, fres .add .f32 y2 x3 W.tape W.drawn = z := ⟨_, rfl⟩
                      have Hz4 : Hid (fl .f32 z4 = fop .add .f32 (fl .f32 y2) (fl .f32 x3)) := Lib.hid (by rw [← ez4]; exact fl_fres ..)
                      rw [ez4]
                      clear ez4 hW W
                      refine wpRel_step (fun K hK => ?_)
                      go_simp
                      intro W hW
                      refine ⟨sjoin_B (Nat.le_refl _) hW _ _ _, fun v hv => ?_⟩
                      obtain ⟨z5, rfl, hz5⟩ := rv_sjoin hv
                      refine hK _ ?_
                      clear hK K hW W hv
                      iterate 1 (refine wpRel_step (fun K hK => ?_); go_simp; intro W hW; obtain ⟨q0, q1, q2, q3⟩ := HLD.out W hW; (try go_simp); (first | refine ⟨hW, hK _ ?_⟩ | refine hK _ ?_); clear q0 q1 q2 q3 hK K hW W)
                      refine wpRel_nil ?_
                      intro W hW
                      have rW := rD.below hW rD.lt
                      obtain ⟨f3, y3, t0, t1, _⟩ := rW.cells hto
                      have u0 := rW.frz (to * 2)
                      have u1 := rW.frz (to * 2 + 1)
                      have HRW := Lib.hid rW
                      have HV : Hid (stO true z5 = joinS ((fbT M ms pt la T s 0).getD to none) (plusS (T.getD s none) (halfO ms pt s false))) := Lib.hid (by rw [hz5, Hz4.out, hx3, hd, HTS.out]; rfl)
                      have hbWW : Below wA.heap.size wA W := bD.trans (hW.mono bD.size)
                      clear rW hz5 hx3
                      go_wp2
                      go_roundw
                      case rel =>
                        refine ⟨0 + 1, by omega, by go_num, ?_, Below.setCell (p := ⟨wA.heap.size, to * 2 + 1, none⟩) (Below.setCell (p := ⟨wA.heap.size, to * 2, none⟩) hbWW (Nat.le_refl _) _) (Nat.le_refl _) _⟩
                        have h9 := fbT_step (M := M) (ms := ms) (part := pt) (last := la) (a := T) (s := s) false
                        rw [fwdE_yes (show (false && la) = false from rfl), HTO.out] at h9
                        have h8 := SRow.put HRW.out (to := to) hto true z5 _ HV.out
                        have e9 : fbT M ms pt la T s (0 + 1) = ((fbT M ms pt la T s 0).set to (joinS ((fbT M ms pt la T s 0).getD to none) (plusS (T.getD s none) (halfO ms pt s false)))) := h9
                        rw [e9]
                        exact h8
                      case measure => simp [intOf]
                    · cases la
                      · have hnt : ¬ n ≤ t := of_decide_eq_false HLA.out
                        obtain ⟨to, eto⟩ : ∃ to, toS M s true = to := ⟨_, rfl⟩
                        have hto : to < S := by rw [← eto, ← HSS.out]; exact toS_lt true
                        have htv : (2 * (s : Int) + bitI true) % 2 ^ M = (to : Int) := by rw [← eto]; exact toS_eq M s true
                        have HTV := Lib.hid htv
                        have HTO := Lib.hid eto
                        clear htv eto
                        have cd0 := (hb6.cell (p := ⟨w.heap.size, 0, none⟩) hz6).trans (HO6.out.cell 0)
                        go_wp2_with fail
                        refine (spec_l07Next_c wE w.heap.size M s true (by omega) (by omega) hM1 hM4 cd0).mono ?_
                        rintro e w' ⟨rfl, q1, rfl⟩
                        rw [HTV.out]
                        obtain ⟨wD, eD⟩ : ∃ W : World, W = wE.drewN q1 := ⟨_, rfl⟩
                        rw [← eD]
                        have rD : SRow 71 wD wA.heap.size S (fbT M ms pt false T s 1) := by rw [eD]; exact HR.out.drewN _
                        have bD : Below wA.heap.size wA wD := by rw [eD]; exact below_drewN hbE _
                        have b6D : Below w6.heap.size w6 wD := hbr.trans (bD.mono hzA)
                        have tD : SRow 71 wD bt S T := HBT.out.below bD hbt
                        obtain ⟨f1, y1, d0, d1, hd⟩ := rD.cells hto
                        have aD : wD.cell? ⟨g, t, none⟩ = some (rV S bt) := (bD.cell (p := ⟨g, t, none⟩) hgA).trans HGC.out
                        have hy2 : wD.cell? ⟨bt, s * 2 + 1, none⟩ = some (.float .f32 y2) := (bD.cell (p := ⟨bt, s * 2 + 1, none⟩) hbt).trans HY2.out
                        have HLD : Hid (∀ W, Below wD.heap.size wD W → W.cell? ⟨wA.heap.size, to * 2, none⟩ = some (.bool f1) ∧ W.cell? ⟨wA.heap.size, to * 2 + 1, none⟩ = some (.float .f32 y1) ∧ W.cell? ⟨g, t, none⟩ = some (.slice (some ⟨bt, 0, none⟩) S S) ∧ W.cell? ⟨bt, s * 2 + 1, none⟩ = some (.float .f32 y2)) :=
                          Lib.hid fun W hW => ⟨(hW.cell (p := ⟨wA.heap.size, to * 2, none⟩) rD.lt).trans d0, (hW.cell (p := ⟨wA.heap.size, to * 2 + 1, none⟩) rD.lt).trans d1, (hW.cell (p := ⟨g, t, none⟩) (Nat.lt_of_lt_of_le hgA bD.size)).trans aD, (hW.cell (p := ⟨bt, s * 2 + 1, none⟩) tD.lt).trans hy2⟩
                        have HHF : Hid (∀ W, Below wD.heap.size wD W → Calls Try.prog 39 #[.pointer (some ⟨w.heap.size, 0, none⟩), .slice A2 n2 cap2, .int .i64 (t : Int), .int .i64 (s : Int), .bool true] W fun e w' => ∃ v, e = .returned (.float .f32 v) ∧ fl .f32 v = halfO ms pt s true ∧ Below W.heap.size W w') :=
                          Lib.hid fun W hW => HHALF.out W (b6D.trans (hW.mono b6D.size)) s (by omega) true
                        clear d0 d1 hy2 aD cd0 eD
                        go_wp2_with fail
                        refine wp_region_B (RvS (halfO ms pt s true)) 23 (D := wD.heap.size) (w0 := wD) (by kernel_rfl) (by kernel_rfl) (Below.refl _ _) ?_
                        simp only [List.take_succ_cons, List.take_zero, List.drop_succ_cons, List.drop_zero]
                        iterate 19 (refine wpRel_step (fun K hK => ?_); go_simp; intro W hW; obtain ⟨q0, q1, q2, q3⟩ := HLD.out W hW; (try go_simp); (first | refine ⟨hW, hK _ ?_⟩ | refine hK _ ?_); clear q0 q1 q2 q3 hK K hW W)
                        refine wpRel_step (fun K hK => ?_)
                        go_simp
                        intro W hW
                        refine ⟨half_B (Nat.le_refl _) hW (HHF.out W hW), fun v hv => ?_⟩
                        obtain ⟨x3, rfl, hx3⟩ := rv_half hv
                        refine hK _ ?_
                        clear hK K hW W hv
                        refine wpRel_step (fun K hK => ?_)
                        go_simp
                        intro W hW
                        refine ⟨below_drewN hW _, hK _ ?_⟩
                        clear hK K
                        obtain ⟨z4, ez4⟩ : ∃ z, fres .add .f32 y2 x3 W.tape W.drawn = z := ⟨_, rfl⟩
                        have Hz4 : Hid (fl .f32 z4 = fop .add .f32 (fl .f32 y2) (fl .f32 x3)) := Lib.hid (by rw [← ez4]; exact fl_fres ..)
                        rw [ez4]
                        clear ez4 hW W
                        refine wpRel_step (fun K hK => ?_)
                        go_simp
                        intro W hW
                        refine ⟨sjoin_B (Nat.le_refl _) hW _ _ _, fun v hv => ?_⟩
                        obtain ⟨z5, rfl, hz5⟩ := rv_sjoin hv
                        refine hK _ ?_
                        clear hK K hW W hv
                        iterate 1 (refine wpRel_step (fun K hK => ?_); go_simp; intro W hW; obtain ⟨q0, q1, q2, q3⟩ := HLD.out W hW; (try go_simp); (first | refine ⟨hW, hK _ ?_⟩ | refine hK _ ?_); clear q0 q1 q2 q3 hK K hW W)
                        refine wpRel_nil ?_
                        intro W hW
                        have rW := rD.below hW rD.lt
                        obtain ⟨f3, y3, t0, t1, _⟩ := rW.cells hto
                        have u0 := rW.frz (to * 2)
                        have u1 := rW.frz (to * 2 + 1)
                        have HRW := Lib.hid rW
                        have HV : Hid (stO true z5 = joinS ((fbT M ms pt false T s 1).getD to none) (plusS (T.getD s none) (halfO ms pt s true))) := Lib.hid (by rw [hz5, Hz4.out, hx3, hd, HTS.out]; rfl)
                        have hbWW : Below wA.heap.size wA W := bD.trans (hW.mono bD.size)
                        clear rW hz5 hx3
                        go_wp2
                        go_roundw
                        case rel =>
                          refine ⟨1 + 1, by omega, by go_num, ?_, Below.setCell (p := ⟨wA.heap.size, to * 2 + 1, none⟩) (Below.setCell (p := ⟨wA.heap.size, to * 2, none⟩) hbWW (Nat.le_refl _) _) (Nat.le_refl _) _⟩
                          have h9 := fbT_step (M := M) (ms := ms) (part := pt) (last := false) (a := T) (s := s) true
                          rw [fwdE_yes (show (true && false) = false from rfl), HTO.out] at h9
                          have h8 := SRow.put HRW.out (to := to) hto true z5 _ HV.out
                          have e9 : fbT M ms pt false T s (1 + 1) = ((fbT M ms pt false T s 1).set to (joinS ((fbT M ms pt false T s 1).getD to none) (plusS (T.getD s none) (halfO ms pt s true)))) := h9
                          rw [e9]
                          exact h8
                        case measure => simp [intOf]
                      · have hnt : n ≤ t := of_decide_eq_true HLA.out
                        have hstep : fbT M ms pt true T s (1 + 1) = fbT M ms pt true T s 1 := (fbT_step true).trans fwdE_last
                        have HSTEP := Lib.hid hstep
                        clear hstep
                        go_wp2
                        go_roundw
                        case rel => exact ⟨1 + 1, by omega, by go_num, by rw [HSTEP.out]; exact HR.out, hbE⟩
                        case measure => simp [intOf]
                    · go_wp2
                      go_roundw
                      case rel => exact ⟨s + 1, by omega, by go_num, HR.out, hbE⟩
                      case measure => simp [intOf]; omega
              · obtain rfl : s = S := by omega
                have hAB := HAR.out.below HB0.out
                have hlen : (bs.map (rV s)).length + 1 ≤ 1099511627776 := by rw [List.length_map, HBL.out]; omega
                go_wp2_with (at_builtin; refine appGW Try.underlying69 infoSumS rfl (by decide) rfl _ _ rfl _ _ _ rfl (hAB.1.alloc _) _ _ _ rfl (cell_new1 _ _ _) rfl hlen (by simp; have := HB0.out.size; omega) ?_; intro v' w1 ho1 hg1)
                go_roundw
                case rel =>
                  refine ⟨t + 1, by omega, by go_num, bs ++ [wA.heap.size], by rw [List.length_append, HBL.out]; rfl, AR.step (by decide) HAR.out HB0.out hzA ?_ _ hg1 ho1, ?_⟩
                  · rw [HBL.out, HTAB.out]
                    exact HR0.out
                  · exact ((hbr.trans (HB0.out.mono hzA)).alloc (by have := HB0.out.size; omega) _).grown hg1 (by simp; have := HB0.out.size; omega) fun k hk => (World.ownsRow.lt hAB.1 k hk).1
                case measure => simp [intOf]; omega
          · obtain rfl : t = n + M := by omega
            have hgetA := fun i (hi : i < n + M + 1) => hAR.get (i := i) (by rw [hbl]; exact hi)
            obtain ⟨g, cg, rfl, hg6, hgA, _⟩ := hgetA 0 (by omega)
            have hGA : ∀ i, i < n + M + 1 → wA.cell? ⟨g, i, none⟩ = some (rV S (bs.getD i 0)) := fun i hi => by
              obtain ⟨g', c', e, _, _, h⟩ := hgetA i hi
              injection e with e1
              injection e1 with e2
              injection e2 with e3
              subst e3
              exact h
            rw [hbl]
            have HAR := Lib.hid hAR
            have HGA := Lib.hid hGA
            have HBL := Lib.hid hbl
            clear hgetA hAR hGA hbl
            obtain ⟨N, hN⟩ : ∃ N, n + M = N := ⟨_, rfl⟩
            have hnN : n ≤ N := by omega
            have hN44 : N ≤ 44 := by omega
            have hNI : (n : Int) + (M : Int) = (N : Int) := by omega
            have hNN : N * k = n2 := by rw [← hN]; exact HNN.out
            have HN := Lib.hid hN
            have HNI := Lib.hid hNI
            have HNNN := Lib.hid hNN
            rw [hN] at HGA HBL ⊢
            rw [hNI]
            have hmk := fun W : World => run_mkSum S (Nat.le_trans hS16 (by decide)) .i64 .i64 W
            have hmr := fun W : World => run_mk (P := Try.prog) Try.underlying69 infoSumS rfl (by decide) (N + 1) (by omega) .i64 .i64 W
            have hN1 : (((N + 1 : Nat)) : Int) = (N : Int) + 1 := by omega
            rw [hN1] at hmr
            obtain ⟨w8, e8⟩ : ∃ q0 : World, q0 = wA.alloc (.cells (zeroRow (.slice none 0 0) (N + 1)) 68) := ⟨_, rfl⟩
            have b8 : Below wA.heap.size wA w8 := by rw [e8]; exact (Below.refl _ _).alloc (Nat.le_refl _) _
            have r8 : Row w8 wA.heap.size 68 (List.replicate (N + 1) (.slice none 0 0)) := by rw [e8]; exact Row.new wA 68 (.slice none 0 0) (N + 1)
            have z8 : w8.heap.size = wA.heap.size + 1 := by rw [e8]; simp
            rw [← brow_none S] at r8
            obtain ⟨uu, c8⟩ : ∃ u, w8.cell? ⟨wA.heap.size, N, none⟩ = some u := ⟨_, r8.get (by rw [brow_len]; omega)⟩
            have f8 := r8.frz N
            obtain ⟨w9, e9⟩ : ∃ q0 : World, q0 = (w8.setCell ⟨wA.heap.size, N, none⟩ (.slice (some ⟨wA.heap.size + 1, 0, none⟩) S S)).alloc (.cells (madeCells #[Value.bool false, .float .f32 0] (S * 2)) 71) := ⟨_, rfl⟩
            have b9 : Below wA.heap.size wA w9 := by rw [e9]; exact (Below.setCell (p := ⟨wA.heap.size, N, none⟩) b8 (Nat.le_refl _) _).alloc (by simp; omega) _
            have r9 : Row w9 wA.heap.size 68 (brow S N N [wA.heap.size + 1]) := by
              have h := (r8.put N (rV S (wA.heap.size + 1))).alloc (.cells (madeCells #[Value.bool false, .float .f32 0] (S * 2)) 71)
              rw [brow_set (Nat.le_refl _) (by simp)] at h
              rw [e9]
              exact h
            have s9 : SRow 71 w9 (wA.heap.size + 1) S (noneR S) := by
              have h := SRow.new 71 (w8.setCell ⟨wA.heap.size, N, none⟩ (.slice (some ⟨wA.heap.size + 1, 0, none⟩) S S)) S
              rw [show (w8.setCell ⟨wA.heap.size, N, none⟩ (.slice (some ⟨wA.heap.size + 1, 0, none⟩) S S)).heap.size = wA.heap.size + 1 by simp [z8]] at h
              rw [e9]
              exact h
            have c9 : w9.cell? ⟨wA.heap.size, N, none⟩ = some (.slice (some ⟨wA.heap.size + 1, 0, none⟩) S S) := by
              have h := r9.get (k := N) (by rw [brow_len]; omega)
              rw [brow_get (Nat.le_refl _) (Nat.le_refl _), Nat.sub_self] at h
              exact h
            have z9 : w9.heap.size = wA.heap.size + 1 + 1 := by rw [e9]; simp [z8]
            obtain ⟨f0, y0, d0, d1, d2⟩ := s9.cells (s := 0) (by omega)
            have u0 := s9.frz 0
            have u1 := s9.frz (0 * 2 + 1)
            rw [Nat.zero_mul] at d0 d1 u1
            have HR9 := Lib.hid r9
            have HS9 := Lib.hid s9
            have HB9 := Lib.hid b9
            have HZ9 := Lib.hid z9
            have HZ8 := Lib.hid z8
            have hltd : decide ((N : Int) < (N : Int)) = false := decide_eq_false (by omega)
            clear r8 r9 s9 b8 b9 z9 z8
            have hz8 := HZ8.out
            go_upto_region 25 with (first | rw [hN1] | (rw [← e8]; clear e8) | (rw [← e9]; clear e9))
            clear d2 d0 d1 u0 u1 c9 hltd
            have hput := SRow.put HS9.out (to := 0) (by omega) true 0 (some (some 0)) (by unfold stO; rw [if_pos rfl, fl0])
            rw [Nat.zero_mul, Nat.zero_add] at hput
            have hb := Below.setCell (p := ⟨wA.heap.size + 1, 1, none⟩) (Below.setCell (p := ⟨wA.heap.size + 1, 0, none⟩) HB9.out (by simp) (.bool true)) (by simp) (.float .f32 0)
            have hB0 : BRel 71 68 wA S N (bwdT M ms xs n) N ((w9.setCell ⟨wA.heap.size + 1, 0, none⟩ (.bool true)).setCell ⟨wA.heap.size + 1, 1, none⟩ (.float .f32 0)) := by
              refine ⟨[wA.heap.size + 1], by simp, (HR9.out.far (by omega) _ _).far (by omega) _ _, fun j hj => ?_, hb⟩
              obtain rfl : j = 0 := by simpa using hj
              refine ⟨Nat.lt_succ_self _, ?_⟩
              show SRow _ _ (wA.heap.size + 1) S (oneR (2 ^ M))
              rw [HSS.out]
              exact hput
            refine wp_region_lit ?_
            iterate 3 (refine wpList_step (fun K2 hK2 => ?_); go_simp; refine hK2 _ _ ?_; clear hK2 K2)
            refine wpList_nil ?_
            go_simp
            rw [IntWalk.i64_in ((N : Int) - 1) (by omega)]
            refine (‹∀ (a : Act) (w : World), Code.wp Try.prog _ _ a w → _› _ _ ?_ : _)
            have HAR' : Hid (AR 71 68 w6.heap.size S (fwdT M ms xs n) wA (.slice (some ⟨g, 0, none⟩) (N + 1) cg) bs) := by rw [← HBL.out]; exact HAR
            exact tail25 w w6 wA M hM1 hM4 A k cap ms hl hk1 hk4 hr A2 n2 cap2 xs hl2 hcap n N S g cg bs hn hnN hN44 hS16 hS1 HSS HN HNNN HNO HYES HB6 hz6 HO6 HX6 HY6 hbr hgA HGA HBL HAR' _ hB0 _ ‹_› _ _ _ _ _ _ _ _ _ _ _ _ _ _ _ _ _ _ _ _ _ _ _ _ _ _ _ _ _ _ _ _ _ _ _ _ _ _ _ _ _ _ _ _ _ _ _ _ _ _ _ _ _ _ _ _ _ _ _ _ _ _ _ _ _ _ _ _ _ _ _ _ _ _ _ _ _ _ _ _ _ _ _ _ _ _ _ _ _ _ _ _ _ _ _ _ _ _ _ _ _ _ _ _ _ _ _ _ _ _ _ _ _ _ _ _ _ _ _ _ _ _ _ _ _ _ _ _ _ _ _ _ _ _ _ _ _ _ _ _ _ _ _ _ _ _ _ _ _ _ _ _ _ _ _ _ _ _ _ _ _ _ _ _ _ _ _ _ _ _ _ _ _ _ _ _ _ _ _ _ _ _ _ _ _ _ _ _ _ _ _ _ _ _ _ _ _ _ _ _ _ _ _ _ _ _ _ _ _ _ _ _ _ _ _ _ _ _ _ _ _ _ _ _ _ _ _ _ _ _ _ _ _ _ _ _ _ _ _ _ _ _ _ _ _ _ _ _ _ _ _ _ _ _ _ _ _ _ _ _ _ _ _ _ _ _ _ _ _ _ _ _ _ _ _ _ _ _ _ _ _ _ _ _ _ _ _ _ _ _ _ _ _ _ _ _ _ _

end Go.Proofs.Ytopeidmafalklaa


namespace Go.Proofs.Ytopeidmafalklaa
open Go.RowKit Go.Shelf

def rowT' (S n : Nat) (q : Nat → Nat) : List Value := (List.range n).map fun i => rV S (q i)
def RowT (W : World) (base S g n cap : Nat) (q : Nat → Nat) : Prop := W.ownsRow base 84 1 (.slice (some ⟨g, 0, none⟩) n cap) n (rowT' S n q)
def swpT (q : Nat → Nat) (i j : Nat) (k : Nat) : Nat := if k = j then q i else if k = i then q j else q k
theorem RowT.get {W : World} {base S g n cap : Nat} {q : Nat → Nat} (h : RowT W base S g n cap q) {i : Nat} (hi : i < n) : W.cell? ⟨g, i, none⟩ = some (rV S (q i)) := by
  have := World.ownsRow.cellAt h i (by omega)
  rw [this]
  simp [rowT', hi]
theorem RowT.frz {W : World} {base S g n cap : Nat} {q : Nat → Nat} (h : RowT W base S g n cap q) (i : Nat) : W.frozen? ⟨g, i, none⟩ = false := World.ownsRow.frozenAt h i
theorem RowT.put {W : World} {base S g n cap : Nat} {q : Nat → Nat} (h : RowT W base S g n cap q) {i j : Nat} :
    RowT ((W.setCell ⟨g, i, none⟩ (rV S (q j))).setCell ⟨g, j, none⟩ (rV S (q i))) base S g n cap (swpT q i j) := by
  have h1 := (World.ownsRow.stored h i (rV S (q j))).1
  have h2 := (World.ownsRow.stored h1 j (rV S (q i))).1
  have e : (((rowT' S n q).set i (rV S (q j))).set j (rV S (q i))) = rowT' S n (swpT q i j) := by
    apply List.ext_getElem (by simp [rowT'])
    intro k k1 k2
    rw [List.getElem_set]
    by_cases hkj : j = k
    · rw [if_pos hkj]
      subst hkj
      simp [rowT', swpT]
    · rw [if_neg hkj, List.getElem_set]
      by_cases hki : i = k
      · rw [if_pos hki]
        subst hki
        have q2 : ¬ i = j := fun e => hkj e.symm
        simp [rowT', swpT, q2]
      · rw [if_neg hki]
        have q1 : ¬ k = i := fun e => hki e.symm
        have q2 : ¬ k = j := fun e => hkj e.symm
        simp [rowT', swpT, q1, q2]
  rw [e] at h2
  exact h2
theorem grown_twoT {W : World} {g i j : Nat} (u v : Value) : W.grownBy ((W.setCell ⟨g, i, none⟩ u).setCell ⟨g, j, none⟩ v) (some g) :=
  ⟨rfl, rfl, rfl, by simp, fun k _ hk => (Below.heap_setCell _ _ _ k (fun e => hk (by rw [e]))).trans (Below.heap_setCell _ _ _ k (fun e => hk (by rw [e])))⟩
theorem grownTT {a b c : World} {row : Option Nat} (h : a.grownBy b row) (k : b.grownBy c row) : a.grownBy c row :=
  ⟨k.os.trans h.os, k.tape.trans h.tape, k.output.trans h.output, Nat.le_trans h.size k.size, fun i hi hn => (k.block i (Nat.lt_of_lt_of_le hi h.size) hn).trans (h.block i hi hn)⟩
theorem grownRT (w : World) (row : Option Nat) : w.grownBy w row := ⟨rfl, rfl, rfl, Nat.le_refl _, fun _ _ _ => rfl⟩
theorem grownBT {w w' : World} (h : Below w.heap.size w w') (row : Option Nat) : w.grownBy w' row := ⟨h.os, h.tape, h.output, h.size, fun k hk _ => h.block k hk⟩
/-- turned about, so many places from both ends -/
def revQ (q : Nat → Nat) (n t : Nat) (i : Nat) : Nat := if i < t ∨ (n - t ≤ i ∧ i < n) then q (n - 1 - i) else q i
theorem revQ_zero (q : Nat → Nat) (n : Nat) : ∀ i, i < n → revQ q n 0 i = q i := fun i hi => by unfold revQ; rw [if_neg (by omega)]
theorem revQ_next (q : Nat → Nat) (n t : Nat) (h : t < n - 1 - t) : ∀ i, i < n → swpT (revQ q n t) t (n - 1 - t) i = revQ q n (t + 1) i := fun i hi => by
  unfold swpT revQ
  by_cases c1 : i = n - 1 - t
  · subst c1
    rw [if_pos rfl, if_neg (by omega), if_pos (by omega)]
    congr 1
    omega
  · rw [if_neg c1]
    by_cases c2 : i = t
    · subst c2
      rw [if_pos rfl, if_neg (by omega), if_pos (by omega)]
    · rw [if_neg c2]
      by_cases c3 : i < t ∨ (n - t ≤ i ∧ i < n)
      · rw [if_pos c3, if_pos (by omega)]
      · rw [if_neg c3, if_neg (by omega)]
theorem revQ_end (q : Nat → Nat) (n t : Nat) (h : ¬ t < n - 1 - t) (ht : t ≤ n) : ∀ i, i < n → revQ q n t i = q (n - 1 - i) := fun i hi => by
  unfold revQ
  by_cases c : i < t ∨ (n - t ≤ i ∧ i < n)
  · rw [if_pos c]
  · rw [if_neg c]
    congr 1
    omega
theorem RowT.cast {W : World} {base S g n cap : Nat} {p q : Nat → Nat} (h : RowT W base S g n cap p) (e : ∀ i, i < n → q i = p i) : RowT W base S g n cap q := by
  have : rowT' S n q = rowT' S n p := by
    unfold rowT'
    refine List.map_congr_left fun i hi => ?_
    rw [e i (List.mem_range.1 hi)]
  unfold RowT
  rw [this]
  exact h


set_option maxRecDepth 100000 in
set_option maxHeartbeats 4000000 in
theorem Reverse_likely_c (w : World) (base S g n cap : Nat) (q : Nat → Nat) (hn1 : 1 ≤ n) (hn : n ≤ 64) (h : RowT w base S g n cap q) :
    Calls Try.prog 47 #[.slice (some ⟨g, 0, none⟩) n cap] w fun e w' => e = .returned (.tuple #[]) ∧ RowT w' base S g n cap (fun i => q (n - 1 - i)) ∧ w.grownBy w' (some g) := by
  have H0 := Lib.hid h
  clear h
  go_enter Try.func47, Try.ntmps47
  go_wp2
  go_loopw [2, 3] (fun i j wr => ∃ (t : Nat) (m : Int), t ≤ n ∧ m = (n : Int) - 1 - (t : Int) ∧ 2 * t ≤ n + 1 ∧ i = .int .i64 t ∧ j = .int .i64 m ∧ RowT wr base S g n cap (revQ q n t) ∧ w.grownBy wr (some g)) (fun i _ _ => n - (intOf i).toNat)
  case atStart => exact ⟨0, (n : Int) - 1, Nat.zero_le _, by omega, by omega, rfl, by go_num, H0.out.cast (revQ_zero q n), grownRT _ _⟩
  case round =>
    obtain ⟨t, m, ht, hm, ht2, rfl, rfl, hr, hg⟩ := hrel
    by_cases hlt : t < n - 1 - t
    · obtain ⟨j, hj⟩ : ∃ j, n - 1 - t = j := ⟨_, rfl⟩
      obtain rfl : m = (j : Int) := by omega
      have c1 := hr.get (i := t) (by omega)
      have c2 := hr.get (i := j) (by omega)
      have f1 := hr.frz t
      have f2 := hr.frz j
      have q1 : (0 : Int) ≤ (t : Int) := by omega
      have q2 : (t : Int) < (n : Int) := by omega
      have q3 : (0 : Int) ≤ (j : Int) := by omega
      have q4 : (j : Int) < (n : Int) := by omega
      have q5 : (t : Int) < (j : Int) := by omega
      have hput := hr.put (i := t) (j := j)
      have hnx := revQ_next q n t hlt
      rw [hj] at hnx
      have hput2 := hput.cast (fun i hi => (hnx i hi).symm)
      obtain ⟨x, ex⟩ : ∃ x, revQ q n t t = x := ⟨_, rfl⟩
      obtain ⟨y, ey⟩ : ∃ y, revQ q n t j = y := ⟨_, rfl⟩
      rw [ex, ey] at hput2
      rw [ex] at c1
      rw [ey] at c2
      unfold rV at c1 c2
      have HP := Lib.hid hput2
      have HG := Lib.hid hg
      have hne : ¬ t = j := by omega
      have HJ := Lib.hid hj
      clear hput hput2 hnx hr ex ey hg hm hj
      go_wp2_with fail
      go_region
      have HX := Lib.hid (grownTT HG.out (grown_twoT (i := t) (j := j) (W := wr) (rV S y) (rV S x)))
      go_wp2_with fail
      go_roundw
      case rel => exact ⟨t + 1, (j : Int) - 1, by omega, by have := HJ.out; omega, by have := HJ.out; omega, by go_num, by go_num, own_below HP.out (below_drewN (Below.refl _ _) 1) (Nat.le_refl _), grownTT HX.out (grownBT (below_drewN (Below.refl _ _) 1) _)⟩
      case measure => simp [intOf]; omega
    · have hd : decide ((t : Int) < m) = false := decide_eq_false (by omega)
      have HR := Lib.hid hr
      have HG := Lib.hid hg
      have HE := Lib.hid (revQ_end q n t hlt ht)
      clear hr hg hm
      go_wp2
      go_end0
      exact ⟨rfl, HR.out.cast (fun i hi => (HE.out i hi).symm), HG.out⟩

end Go.Proofs.Ytopeidmafalklaa


namespace Go.Proofs.Ytopeidmafalklaa
open Go.RowKit Go.Shelf

/-- a row of the call's own of tables -/
def AR2 (B0 S : Nat) (F : Nat → List St) (W : World) (v : Value) (bs : List Nat) : Prop :=
  Ow W B0 84 v (bs.map (rV S)) ∧ ∀ i, i < bs.length → SRow 87 W (bs.getD i 0) S (F i)
theorem AR2.below {B0 S : Nat} {F : Nat → List St} {W W' : World} {v : Value} {bs : List Nat} (h : AR2 B0 S F W v bs) (hb : Below W.heap.size W W') : AR2 B0 S F W' v bs :=
  ⟨own_below h.1 hb (Nat.le_refl _), fun i hi => (h.2 i hi).below hb (h.2 i hi).lt⟩
theorem AR2.get {B0 S : Nat} {F : Nat → List St} {W : World} {v : Value} {bs : List Nat} (h : AR2 B0 S F W v bs) (hn : 0 < bs.length) :
    ∃ g c, v = .slice (some ⟨g, 0, none⟩) bs.length c ∧ B0 ≤ g ∧ g < W.heap.size ∧ W.ownsRow B0 84 1 (.slice (some ⟨g, 0, none⟩) bs.length c) bs.length (bs.map (rV S)) ∧ ∀ i, i < bs.length → W.cell? ⟨g, i, none⟩ = some (rV S (bs.getD i 0)) := by
  obtain ⟨A, cap, hv, ho⟩ := h.1.opn
  obtain ⟨g, cap', hv2, hbg, hgs⟩ := ho.form (by omega)
  refine ⟨g, cap', hv.trans hv2, hbg, hgs, hv2 ▸ ho, fun i hi => ?_⟩
  have hc := (hv2 ▸ ho).cellAt i (by omega)
  refine hc.trans ?_
  rw [List.getElem?_map]
  simp [List.getD, hi]
theorem AR2.step {B0 S : Nat} {F : Nat → List St} {wA wB w1 : World} {v v' : Value} {bs : List Nat} {nb : Nat} (h : AR2 B0 S F wA v bs) (hbA : Below wA.heap.size wA wB) (hT : SRow 87 wB nb S (F bs.length)) (o : Go.Obj)
    (hg : (wB.alloc o).grownBy w1 v.ownBlock) (ho : Ow w1 B0 84 v' ((bs.map (rV S)) ++ [rV S nb])) : AR2 B0 S F w1 v' (bs ++ [nb]) := by
  have hB := h.below hbA
  have hC := hB.1.alloc o
  refine ⟨by rw [List.map_append]; exact ho, fun i hi => ?_⟩
  rw [List.length_append, List.length_singleton] at hi
  by_cases q : i < bs.length
  · have e1 : (bs ++ [nb]).getD i 0 = bs.getD i 0 := by simp only [List.getD, List.getElem?_append_left q]
    rw [e1]
    exact ((hB.2 i q).alloc o).kept hC (by decide) hg
  · have e0 : i = bs.length := by omega
    subst e0
    have e1 : (bs ++ [nb]).getD bs.length 0 = nb := by simp [List.getD]
    rw [e1]
    exact (hT.alloc o).kept hC (by decide) hg
theorem rowT_of {W : World} {B0 S g n cap : Nat} {bs : List Nat} (hl : bs.length = n) (h : W.ownsRow B0 84 1 (.slice (some ⟨g, 0, none⟩) n cap) n (bs.map (rV S))) : RowT W B0 S g n cap (fun i => bs.getD i 0) := by
  unfold RowT
  have : rowT' S n (fun i => bs.getD i 0) = bs.map (rV S) := by
    unfold rowT'
    refine List.ext_getElem (by simp [hl]) fun i h1 h2 => ?_
    simp only [List.length_map, List.length_range] at h1
    have hi : i < bs.length := by omega
    rw [List.getElem_map, List.getElem_range, List.getElem_map]
    simp [List.getD, hi]
  rw [this]
  exact h

end Go.Proofs.Ytopeidmafalklaa
