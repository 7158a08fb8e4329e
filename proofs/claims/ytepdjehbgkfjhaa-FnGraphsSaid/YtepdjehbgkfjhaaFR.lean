/-
  Rounds of changed bits on a graph: plain, and contracts.
  Conditions: lengths at most 1048576.
-/
import Derived.Test.YtepdjehbgkfjhaaGM
import Derived.OwnWalk
namespace Go.Proofs.Ytepdjehbgkfjhaa
open Go.RowKit

/-- numbers at the places of a row, each changed by v: behind k of them -/
def bump (t : List Int) (v : Int) (l : List Int) : Nat → List Int
  | 0 => t
  | k + 1 => (bump t v l k).set (l.getD k 0).toNat ((bump t v l k).getD (l.getD k 0).toNat 0 + v)
theorem bump_len (t : List Int) (v : Int) (l : List Int) (k : Nat) : (bump t v l k).length = t.length := by
  induction k with
  | zero => rfl
  | succ k ih => rw [bump, List.length_set, ih]
def tollV (bs : List Bool) (l : List Int) : Int := if unevenB bs l then 1 else -1
theorem tollV_bd (bs : List Bool) (l : List Int) : -1 ≤ tollV bs l ∧ tollV bs l ≤ 1 := by unfold tollV; split <;> omega
/-- the numbers behind k rows -/
def tolls (D : List (List Int)) (bs : List Bool) (n : Nat) : Nat → List Int
  | 0 => List.replicate n 0
  | k + 1 => bump (tolls D bs n k) (tollV bs (D.getD k [])) (D.getD k []) (D.getD k []).length
theorem tolls_len (D : List (List Int)) (bs : List Bool) (n k : Nat) : (tolls D bs n k).length = n := by
  induction k with
  | zero => simp [tolls]
  | succ k ih => rw [tolls, bump_len, ih]
def Near (b : Nat) (t : List Int) : Prop := ∀ x ∈ t, -(b : Int) ≤ x ∧ x ≤ b
theorem Near.getD {b : Nat} {t : List Int} (h : Near b t) (k : Nat) : -(b : Int) ≤ t.getD k 0 ∧ t.getD k 0 ≤ b := by
  by_cases hk : k < t.length
  · rw [show t.getD k 0 = t[k] from by simp [List.getD, hk]]
    exact h _ (List.getElem_mem hk)
  · rw [show t.getD k 0 = 0 from by simp [List.getD, List.getElem?_eq_none (show t.length ≤ k by omega)]]
    omega
theorem Near.set {b c : Nat} {t : List Int} (h : Near b t) {x : Int} (h1 : -(c : Int) ≤ x) (h2 : x ≤ c) (hbc : b ≤ c) (k : Nat) : Near c (t.set k x) := by
  intro y hy
  rcases List.mem_or_eq_of_mem_set hy with hy | rfl
  · have := h y hy
    omega
  · exact ⟨h1, h2⟩
theorem bump_near {b : Nat} {t : List Int} (h : Near b t) {v : Int} (h1 : -1 ≤ v) (h2 : v ≤ 1) (l : List Int) (k : Nat) : Near (b + k) (bump t v l k) := by
  induction k with
  | zero => exact h
  | succ k ih =>
    rw [bump]
    have h3 := ih.getD (l.getD k 0).toNat
    exact ih.set (by omega) (by omega) (by omega) _
theorem tolls_near {D : List (List Int)} (hD : ∀ l ∈ D, l.length ≤ 32) (bs : List Bool) (n k : Nat) : Near (32 * k) (tolls D bs n k) := by
  induction k with
  | zero =>
    intro x hx
    simp [tolls] at hx
    omega
  | succ k ih =>
    rw [tolls]
    have h1 := bump_near ih (tollV_bd bs (D.getD k [])).1 (tollV_bd bs (D.getD k [])).2 (D.getD k []) (D.getD k []).length
    have h2 : (D.getD k []).length ≤ 32 := by
      by_cases hk : k < D.length
      · rw [show D.getD k [] = D[k] from by simp [List.getD, hk]]
        exact hD _ (List.getElem_mem hk)
      · rw [show D.getD k [] = [] from by simp [List.getD, List.getElem?_eq_none (show D.length ≤ k by omega)]]
        exact Nat.zero_le _
    intro x hx
    have := h1 x hx
    omega

/-- the greatest of the first k numbers and a -/
def maxI (a b : Int) : Int := if a < b then b else a
def most (a : Int) (t : List Int) : Nat → Int
  | 0 => a
  | k + 1 => maxI (most a t k) (t.getD k 0)
/-- bits changed at the first k places where the number is g -/
def flips (t : List Int) (g : Int) (bs : List Bool) : Nat → List Bool
  | 0 => bs
  | k + 1 => if t.getD k 0 == g then (flips t g bs k).set k (!(flips t g bs k).getD k false) else flips t g bs k
theorem flips_len (t : List Int) (g : Int) (bs : List Bool) (k : Nat) : (flips t g bs k).length = bs.length := by
  induction k with
  | zero => rfl
  | succ k ih =>
    rw [flips]
    split
    · rw [List.length_set, ih]
    · exact ih
def topOf (D : List (List Int)) (bs : List Bool) : Int := most 0 (tolls D bs bs.length D.length) bs.length
def flipped (D : List (List Int)) (bs : List Bool) : List Bool := flips (tolls D bs bs.length D.length) (topOf D bs) bs bs.length
theorem flipped_len (D : List (List Int)) (bs : List Bool) : (flipped D bs).length = bs.length := flips_len _ _ _ _
/-- f rounds are left, r are made -/
def flipGo (D : List (List Int)) : Nat → Nat → List Bool → Option (List Bool × Nat)
  | 0, r, bs => if memberB D bs then some (bs, r) else none
  | f + 1, r, bs => if memberB D bs then some (bs, r) else if topOf D bs == 0 then none else flipGo D f (r + 1) (flipped D bs)
theorem flipGo_in {D : List (List Int)} {f r : Nat} {bs : List Bool} (h : memberB D bs = true) : flipGo D f r bs = some (bs, r) := by
  cases f <;> simp [flipGo, h]
theorem flipGo_end {D : List (List Int)} {r : Nat} {bs : List Bool} (h : memberB D bs = false) : flipGo D 0 r bs = none := by simp [flipGo, h]
theorem flipGo_stuck {D : List (List Int)} {f r : Nat} {bs : List Bool} (h : memberB D bs = false) (ht : topOf D bs = 0) : flipGo D f r bs = none := by
  cases f <;> simp [flipGo, h, ht]
theorem flipGo_next {D : List (List Int)} {f r : Nat} {bs : List Bool} (h : memberB D bs = false) (ht : topOf D bs ≠ 0) : flipGo D (f + 1) r bs = flipGo D f (r + 1) (flipped D bs) := by
  simp [flipGo, h, ht]
theorem flipGo_len {D : List (List Int)} {f r : Nat} {bs : List Bool} {o : List Bool × Nat} (h : flipGo D f r bs = some o) : o.1.length = bs.length := by
  induction f generalizing r bs with
  | zero =>
    unfold flipGo at h
    split at h
    · cases h; rfl
    · cases h
  | succ f ih =>
    unfold flipGo at h
    split at h
    · cases h; rfl
    · split at h
      · cases h
      · rw [ih h, flipped_len]
def flipAns (m : Int) (D : List (List Int)) (bs : List Bool) (k : Int) : Option (List Bool × Nat) := if memOkB m D bs && inB k 0 64 then flipGo D k.toNat 0 bs else none
def flipL (m : Int) (D : List (List Int)) (bs : List Bool) (k : Int) : List Bool := match flipAns m D bs k with | some o => o.1 | none => []
def flipR (m : Int) (D : List (List Int)) (bs : List Bool) (k : Int) : Int := match flipAns m D bs k with | some o => o.2 | none => 0
def flipOk (m : Int) (D : List (List Int)) (bs : List Bool) (k : Int) : Bool := (flipAns m D bs k).isSome
theorem flipL_len (m : Int) (D : List (List Int)) (bs : List Bool) (k : Int) : (flipL m D bs k).length ≤ bs.length := by
  unfold flipL
  cases h : flipAns m D bs k with
  | none => exact Nat.zero_le _
  | some o =>
    unfold flipAns at h
    split at h
    · exact Nat.le_of_eq (flipGo_len h)
    · cases h

theorem most_nonneg (t : List Int) (k : Nat) : 0 ≤ most 0 t k := by
  induction k with
  | zero => exact Int.le_refl _
  | succ k ih => rw [most, maxI]; split <;> omega
theorem most_near {b : Nat} {t : List Int} (h : Near b t) {a : Int} (h1 : -(b : Int) ≤ a) (h2 : a ≤ b) (k : Nat) : -(b : Int) ≤ most a t k ∧ most a t k ≤ b := by
  induction k with
  | zero => exact ⟨h1, h2⟩
  | succ k ih =>
    have h3 := h.getD k
    rw [most, maxI]
    split <;> omega
/-- from 0 on the greatest number is told as from the first number on, if it is above 0 -/
theorem most_zero (t : List Int) (k : Nat) : most 0 t (k + 1) = maxI 0 (most (t.getD 0 0) t (k + 1)) := by
  induction k with
  | zero => simp [most, maxI]
  | succ k ih =>
    rw [most, ih]
    conv => rhs; rw [most]
    generalize most (t.getD 0 0) t (k + 1) = y
    generalize t.getD (k + 1) 0 = z
    unfold maxI
    repeat' split
    all_goals omega
theorem most_first (t : List Int) : most (t.getD 0 0) t 1 = t.getD 0 0 := by simp [most, maxI]


set_option maxRecDepth 100000 in
set_option maxHeartbeats 400000 in
theorem Max_i64_c (w : World) (B : Nat) (A : Option Addr) (n cap : Nat) (t : List Int) (hl : t.length = n) (h1 : 1 ≤ n) (hn : n ≤ 1048576) (hx : Sl w B A (t.map (Value.int .i64))) :
    Calls Try.prog 24 #[.slice A n cap] w fun e w' => e = .returned (.int .i64 (most (t.getD 0 0) t n)) ∧ w = w' := by
  obtain ⟨b, off, rfl, hbb, hc0⟩ := hx.get 0 (by omega)
  have h0 : t.getD 0 0 = t[0]'(by omega) := by simp [List.getD, show 0 < t.length by omega]
  rw [← h0] at hc0
  rw [Nat.add_zero] at hc0
  have hf := most_first t
  obtain ⟨z, hz⟩ : ∃ z, t.getD 0 0 = z := ⟨_, rfl⟩
  rw [hz] at hc0 hf ⊢
  have HF := Lib.hid hf
  clear h0 hz hf
  go_enter Try.func24, Try.ntmps24
  go_wp2
  go_loop [3, 4] (fun m i => ∃ k : Nat, 1 ≤ k ∧ k ≤ n ∧ i = .int .i64 k ∧ m = .int .i64 (most z t k)) (fun _ i => n - (intOf i).toNat)
  case atStart => exact ⟨1, Nat.le_refl _, h1, rfl, by rw [HF.out]⟩
  case round =>
    obtain ⟨k, hk1, hk, rfl, rfl⟩ := hrel
    by_cases hlt : k < n
    · obtain ⟨b', off', he, hbb', hc1⟩ := hx.get k (by omega)
      injection he with he
      injection he with he1 he2
      subst he1 he2
      have hkl : k < t.length := by omega
      have hg : t.getD k 0 = t[k]'hkl := by simp [List.getD, hkl]
      rw [← hg] at hc1
      have hs : most z t (k + 1) = maxI (most z t k) (t.getD k 0) := rfl
      have HS := Lib.hid hs
      obtain ⟨x, hx1⟩ : ∃ x, most z t k = x := ⟨_, rfl⟩
      obtain ⟨y, hy1⟩ : ∃ y, t.getD k 0 = y := ⟨_, rfl⟩
      rw [hx1, hy1] at HS
      rw [hy1] at hc1
      rw [hx1]
      clear hs hg hx hx1 hy1 hc0
      go_wp2
      go_round
      case rel => exact ⟨k + 1, by omega, by omega, by go_num, by rw [HS.out]; rfl⟩
      case measure => simp [intOf]; omega
    · have : k = n := by omega
      subst this
      go_wp2
      go_ret
      exact ⟨rfl, rfl⟩


theorem own_get {w : World} {base g n cap : Nat} {e : TypeId} {α : Type} {f : α → Value} {xs : List α} (h : w.ownsRow base e 1 (.slice (some ⟨g, 0, none⟩) n cap) n (xs.map f)) {j : Nat} (hj : j < xs.length) : w.cell? ⟨g, j, none⟩ = some (f (xs[j]'hj)) := by
  obtain ⟨b, off, he, _, hc⟩ := (sl_of_own h).get j hj
  injection he with he
  injection he with h1 h2
  subst h1 h2
  rwa [Nat.zero_add] at hc
theorem vg_short {m : Int} {D : List (List Int)} (h : validGraphB m D = true) : 1 ≤ m ∧ m ≤ 32 ∧ D.length ≤ 32 ∧ ∀ l ∈ D, l.length ≤ 32 := by
  unfold validGraphB at h
  simp only [Bool.and_eq_true, decide_eq_true_eq, List.all_eq_true, inB_true] at h
  obtain ⟨⟨⟨⟨h1, h2⟩, h3⟩, h4⟩, h5⟩ := h
  refine ⟨h1, h2, h4, fun l hl => ?_⟩
  have h6 := h5 l hl
  unfold rowOk at h6
  rw [Bool.and_eq_true] at h6
  have := set_len h6.2 (by omega)
  omega
theorem top_of {D : List (List Int)} {cur : List Bool} {n : Nat} (hc : cur.length = n) (h1 : 1 ≤ n) {G : Int} (hG : most ((tolls D cur n D.length).getD 0 0) (tolls D cur n D.length) n = G) : (G ≤ 0 → topOf D cur = 0) ∧ (0 < G → topOf D cur = G) := by
  obtain ⟨k, rfl⟩ : ∃ k, n = k + 1 := ⟨n - 1, by omega⟩
  unfold topOf
  rw [hc, most_zero, hG]
  unfold maxI
  constructor
  · intro h; rw [if_neg (by omega)]
  · intro h; rw [if_pos h]

theorem fa_no {m : Int} {D : List (List Int)} {bs : List Bool} {k : Int} (h : (memOkB m D bs && inB k 0 64) = false) : flipOk m D bs k = false ∧ flipR m D bs k = 0 ∧ flipL m D bs k = [] := by
  have : flipAns m D bs k = none := by unfold flipAns; rw [h]; rfl
  unfold flipOk flipR flipL
  rw [this]
  exact ⟨rfl, rfl, rfl⟩
theorem fa_yes {m : Int} {D : List (List Int)} {bs : List Bool} {M : Nat} {R : Option (List Bool × Nat)} (h : (memOkB m D bs && inB (M : Int) 0 64) = true) (hR : flipGo D M 0 bs = R) : flipAns m D bs (M : Int) = R := by
  unfold flipAns
  rw [h, if_pos rfl, Int.toNat_natCast, hR]
theorem fa_some {m : Int} {D : List (List Int)} {bs : List Bool} {k : Int} {o : List Bool × Nat} (h : flipAns m D bs k = some o) : flipOk m D bs k = true ∧ flipR m D bs k = o.2 ∧ flipL m D bs k = o.1 := by
  unfold flipOk flipR flipL
  rw [h]
  exact ⟨rfl, rfl, rfl⟩
theorem fa_none {m : Int} {D : List (List Int)} {bs : List Bool} {k : Int} (h : flipAns m D bs k = none) : flipOk m D bs k = false ∧ flipR m D bs k = 0 ∧ flipL m D bs k = [] := by
  unfold flipOk flipR flipL
  rw [h]
  exact ⟨rfl, rfl, rfl⟩

set_option maxRecDepth 100000 in
set_option maxHeartbeats 4000000 in
theorem impl_FlipRounds_c (w : World) (m : Int) (A : Option Addr) (n cap : Nat) (ys : List RowH) (D : List (List Int)) (hd : dat ys = D) (hl : ys.length = n) (hn : n ≤ 1048576) (hr : ∀ r ∈ ys, r.2.2.length ≤ 1048576) (hx0 : Sl2 w w.heap.size A ys)
    (A2 : Option Addr) (n2 cap2 : Nat) (bs : List Bool) (hl2 : bs.length = n2) (hn2 : n2 ≤ 1048576) (hy0 : Sl w w.heap.size A2 (bs.map Value.bool)) (mo : Int) :
    Calls Try.prog 8 #[.agg #[.int .i64 m, .slice A n cap], .slice A2 n2 cap2, .int .i64 mo] w fun e w' => ∃ v, e = .returned (.tuple #[v, .int .i64 (flipR m D bs mo), .bool (flipOk m D bs mo)]) ∧ Ow w' w.heap.size 4 v ((flipL m D bs mo).map Value.bool) ∧ Below w.heap.size w w' := by
  obtain ⟨w1, ew⟩ : ∃ q : World, q = w.alloc (.cells #[.int .i64 m, .slice A n cap] 26) := ⟨_, rfl⟩
  have hB : Below w.heap.size w w1 := by rw [ew]; exact (Below.refl _ _).alloc (Nat.le_refl _) _
  have c0 : w1.cell? ⟨w.heap.size, 0, none⟩ = some (.int .i64 m) := by rw [ew]; (first | (simp; done) | (simp (disch := (first | (simp; done) | (simp; omega))) [World.cell?_alloc_at]; done) | (simp (disch := (first | (simp; done) | (simp; omega))) [World.cell?_alloc_past]; done) | (simp (disch := (first | (simp; done) | (simp; omega))) [World.cell?_alloc_at, World.cell?_alloc_past]; done) | (simp (disch := (first | (simp; done) | (simp; omega))) [World.frozen?_alloc_at]; done) | (simp (disch := (first | (simp; done) | (simp; omega))) [World.frozen?_alloc_past]; done) | (simp (disch := (first | (simp; done) | (simp; omega))) [World.frozen?_alloc_at, World.frozen?_alloc_past]; done))
  have c1 : w1.cell? ⟨w.heap.size, 1, none⟩ = some (.slice A n cap) := by rw [ew]; (first | (simp; done) | (simp (disch := (first | (simp; done) | (simp; omega))) [World.cell?_alloc_at]; done) | (simp (disch := (first | (simp; done) | (simp; omega))) [World.cell?_alloc_past]; done) | (simp (disch := (first | (simp; done) | (simp; omega))) [World.cell?_alloc_at, World.cell?_alloc_past]; done) | (simp (disch := (first | (simp; done) | (simp; omega))) [World.frozen?_alloc_at]; done) | (simp (disch := (first | (simp; done) | (simp; omega))) [World.frozen?_alloc_past]; done) | (simp (disch := (first | (simp; done) | (simp; omega))) [World.frozen?_alloc_at, World.frozen?_alloc_past]; done))
  have hz : w1.heap.size = w.heap.size + 1 := by rw [ew]; simp
  have hx := (hx0.below hB).more hB.size
  have hy := (hy0.below hB).more hB.size
  clear hx0 hy0
  have hdl : D.length = n := by rw [← hd, dat_len, hl]
  cases hv : validGraphB m D
  · obtain ⟨e1, e2, e3⟩ := fa_no (m := m) (D := D) (bs := bs) (k := mo) (by unfold memOkB; rw [hv]; rfl)
    rw [e1, e2, e3]
    have HV := Lib.hid hv
    clear hv e1 e2 e3
    go_enter Try.func8, Try.ntmps8
    go_wp2_with fail
    rw [← ew]
    clear ew
    go_wp2_with (go_at_call 14; refine (impl_ValidGraph_c w1 m A n cap ys D hd hl hn hr hx).mono ?_; rintro e w2 ⟨rfl, hb2⟩; rw [HV.out])
    go_ret3
    exact ⟨_, rfl, World.ownsRow_nil _ _ _ _, hB.trans (hb2.mono hB.size)⟩
  · have hin := vg_in hv
    obtain ⟨hm1, hm2, hn32, h32⟩ := vg_short hv
    cases he : (n2 : Int) == m
    · have hne : ¬ (n2 : Int) = m := by simpa using he
      have hnd : decide ((n2 : Int) = m) = false := by simpa using he
      obtain ⟨e1, e2, e3⟩ := fa_no (m := m) (D := D) (bs := bs) (k := mo) (by unfold memOkB; rw [hv, hl2, he]; rfl)
      rw [e1, e2, e3]
      have HV := Lib.hid hv
      clear hv e1 e2 e3
      go_enter Try.func8, Try.ntmps8
      go_wp2_with fail
      rw [← ew]
      clear ew
      refine (impl_ValidGraph_c w1 m A n cap ys D hd hl hn hr hx).mono ?_
      rintro e w2 ⟨rfl, hb2⟩
      rw [HV.out]
      have d0 := (hb2.cell (p := ⟨w.heap.size, 0, none⟩) (by simp only []; omega)).trans c0
      go_wp2
      go_ret3
      exact ⟨_, rfl, World.ownsRow_nil _ _ _ _, hB.trans (hb2.mono hB.size)⟩
    · obtain rfl : (n2 : Int) = m := by simpa using he
      cases hw : inB mo 0 64
      · obtain ⟨e1, e2, e3⟩ := fa_no (m := (n2 : Int)) (D := D) (bs := bs) (k := mo) (by unfold memOkB; rw [hw, Bool.and_false])
        rw [e1, e2, e3]
        have HV := Lib.hid hv
        have HW := Lib.hid hw
        clear hv hw e1 e2 e3
        go_enter Try.func8, Try.ntmps8
        go_wp2_with fail
        rw [← ew]
        clear ew
        refine (impl_ValidGraph_c w1 _ A n cap ys D hd hl hn hr hx).mono ?_
        rintro e w2 ⟨rfl, hb2⟩
        rw [HV.out]
        have d0 := (hb2.cell (p := ⟨w.heap.size, 0, none⟩) (by simp only []; omega)).trans c0
        go_wp2_with (go_at_call 20; refine (impl_within_c _ _ _ _).mono ?_; rintro e w' ⟨rfl, rfl⟩; rw [HW.out])
        go_ret3
        exact ⟨_, rfl, World.ownsRow_nil _ _ _ _, hB.trans (hb2.mono hB.size)⟩
      · have hw2 := inB_true.1 hw
        obtain ⟨M, rfl⟩ : ∃ M : Nat, mo = (M : Int) := ⟨mo.toNat, by omega⟩
        obtain ⟨R, hR⟩ : ∃ R, flipGo D M 0 bs = R := ⟨_, rfl⟩
        have hans := fa_yes (m := (n2 : Int)) (R := R) (by unfold memOkB; rw [hv, hw, hl2, he]; rfl) hR
        have HANS := Lib.hid hans
        have HV := Lib.hid hv
        have HW := Lib.hid hw
        have HR := Lib.hid hR
        have hin2 : ∀ l ∈ D, ∀ x ∈ l, 0 ≤ x ∧ x < n2 := hin
        have HIN := Lib.hid hin2
        have H32 := Lib.hid h32
        have HDL := Lib.hid hdl
        have h1n : 1 ≤ n2 := by omega
        clear hv hw hans hR hin hin2 h32 he
        go_enter Try.func8, Try.ntmps8
        go_wp2_with fail
        rw [← ew]
        clear ew
        refine (impl_ValidGraph_c w1 _ A n cap ys D hd hl hn hr hx).mono ?_
        rintro e w2 ⟨rfl, hb2⟩
        rw [HV.out]
        have d0 := (hb2.cell (p := ⟨w.heap.size, 0, none⟩) (by simp only []; omega)).trans c0
        have d1 := (hb2.cell (p := ⟨w.heap.size, 1, none⟩) (by simp only []; omega)).trans c1
        have hB2 := hB.trans (hb2.mono hB.size)
        have hz2 := hb2.size
        have hx2 := hx.up hb2
        have hy2 := (hy.below hb2).more hb2.size
        clear c0 c1 hx hy
        go_wp2_with (go_at_call 20; refine (impl_within_c _ _ _ _).mono ?_; rintro e w' ⟨rfl, rfl⟩; rw [HW.out])
        refine (Clone_bool_c w2 A2 n2 cap2 bs hl2 (by omega) hy2).mono ?_
        rintro e w3 ⟨v, rfl, ho3, hb3⟩
        obtain ⟨A3, k3, rfl, hp3⟩ := ho3.opn
        clear ho3 hy2
        rw [hl2] at hp3 ⊢
        obtain ⟨g, q3, hv3, hbg, hgs⟩ := hp3.form (by omega)
        injection hv3 with hv1 hv2 hv4
        subst hv1
        clear hv2 hv4
        go_wp2
        go_loopw [10] (fun r wr => ∃ (k : Nat) (cur : List Bool), k ≤ M ∧ r = .int .i64 k ∧ cur.length = n2 ∧ flipGo D (M - k) k cur = R ∧ wr.ownsRow w2.heap.size 4 1 (.slice (some ⟨g, 0, none⟩) n2 k3) n2 (cur.map Value.bool) ∧ Below w2.heap.size w2 wr) (fun r _ => M + 1 - (intOf r).toNat)
        case atStart => exact ⟨0, bs, Nat.zero_le _, rfl, hl2, HR.out, hp3, hb3⟩
        case round =>
          clear hp3
          obtain ⟨k, cur, hk, rfl, hcl, hgo, ho, hb⟩ := hrel
          have HGO := Lib.hid hgo
          have hzr := hb.size
          have f0 := (hb.cell (p := ⟨w.heap.size, 0, none⟩) (by simp only []; omega)).trans d0
          have f1 := (hb.cell (p := ⟨w.heap.size, 1, none⟩) (by simp only []; omega)).trans d1
          have hxr := hx2.up hb
          have hgr : g < wr.heap.size := by
            obtain ⟨b', off', he', hlt', _⟩ := (sl_of_own ho).get 0 (by rw [hcl]; omega)
            injection he' with he'
            injection he' with he1 he2
            omega
          clear hgo d0 d1 hx2
          go_wp2_with fail
          refine (impl_isMember_c wr _ A n cap ys D hd hl hn hr hxr (some ⟨g, 0, none⟩) n2 k3 cur hcl (by omega) (sl_of_own ho) HIN.out).mono ?_
          rintro e w4 ⟨rfl, hb4⟩
          cases hmem : memberB D cur
          · have HMEM := Lib.hid hmem
            have g0 := (hb4.cell (p := ⟨w.heap.size, 0, none⟩) (by simp only []; omega)).trans f0
            have g1 := (hb4.cell (p := ⟨w.heap.size, 1, none⟩) (by simp only []; omega)).trans f1
            have hz4 := hb4.size
            have ho4 := own_below ho hb4 (Nat.le_refl _)
            have hx4 := hxr.up hb4
            have hmk := fun W : World => run_mk (P := Try.prog) Try.underlying43 infoInt64 rfl (by decide) n2 (by omega) .i64 .i64 W
            have hB4 : Below w2.heap.size w2 w4 := hb.trans (hb4.mono hzr)
            have hlt0 : w.heap.size < w4.heap.size := by omega
            clear hmem f0 f1 ho hxr
            go_wp2
            clear hmk
            obtain ⟨w5, e5⟩ : ∃ q : World, q = w4.alloc (.cells (zeroRow (.int .i64 0) n2) 2) := ⟨_, rfl⟩
            rw [← e5]
            have ht5 : w5.ownsRow w4.heap.size 2 1 (.slice (some ⟨w4.heap.size, 0, none⟩) n2 n2) n2 ((tolls D cur n2 0).map (Value.int .i64)) := by
              rw [e5]
              have h := own_mk w4 w4.heap.size 2 (.int .i64 0) n2 (Nat.le_refl _) (by omega)
              simpa [tolls] using h
            have hB5 : Below w4.heap.size w4 w5 := by rw [e5]; exact (Below.refl _ _).alloc (Nat.le_refl _) _
            have g2 := (hB5.cell (p := ⟨w.heap.size, 1, none⟩) (by simp only []; omega)).trans g1
            clear e5
            go_loopw [50] (fun i wr => ∃ k2 : Nat, k2 ≤ n ∧ i = .int .i64 k2 ∧ wr.ownsRow w4.heap.size 2 1 (.slice (some ⟨w4.heap.size, 0, none⟩) n2 n2) n2 ((tolls D cur n2 k2).map (Value.int .i64)) ∧ Below w4.heap.size w4 wr) (fun i _ => n - (intOf i).toNat)
            case atStart => exact ⟨0, Nat.zero_le _, rfl, ht5, hB5⟩
            case round =>
              clear ht5 hB5 g0 g1 g2
              obtain ⟨k2, hk2, rfl, ht, hbq⟩ := hrel
              by_cases hlt2 : k2 < n
              · obtain ⟨b1, off, rfl, hbb1, hc1⟩ := ((hx4.below hbq).1).get k2 (by omega)
                have s0 := hx4.2 (ys[k2]'(by omega)) (List.getElem_mem _)
                have s3 := hr (ys[k2]'(by omega)) (List.getElem_mem _)
                have hkd : k2 < D.length := by have := HDL.out; omega
                have e1 : D[k2]'hkd = (ys[k2]'(by omega)).2.2 := by
                  rw [← dat_get (by omega)]
                  simp only [hd]
                have s5 := HIN.out (D[k2]'hkd) (List.getElem_mem _)
                have s6 := H32.out (D[k2]'hkd) (List.getElem_mem _)
                have hgd : D.getD k2 [] = D[k2]'hkd := by simp [List.getD, hkd]
                obtain ⟨⟨a, c, l⟩, hxx⟩ : ∃ x, ys[k2]'(by omega) = x := ⟨_, rfl⟩
                rw [hxx] at hc1 s0 s3 e1
                simp only [rowV] at hc1 s0 s3 e1
                rw [e1] at s5 s6 hgd
                have hnear := tolls_near H32.out cur n2 k2
                have htl := tolls_len D cur n2 k2
                have hst : tolls D cur n2 (k2 + 1) = bump (tolls D cur n2 k2) (tollV cur l) l l.length := by rw [tolls, hgd]
                have HST := Lib.hid hst
                obtain ⟨T, hT⟩ : ∃ T, tolls D cur n2 k2 = T := ⟨_, rfl⟩
                rw [hT] at hnear htl HST ht
                have hoq := own_below ho4 hbq (Nat.le_refl _)
                clear hst hT hgd e1 hxx hkd
                cases hu : unevenB cur l
                · have hv : tollV cur l = -1 := by unfold tollV; rw [hu]; rfl
                  rw [hv] at HST
                  have HU := Lib.hid hu
                  clear hu hv
                  go_wp2_with (go_at_call 23; refine (impl_isEven_c wr w4.heap.size _ a l.length c l rfl s3 (s0.below hbq) (some ⟨g, 0, none⟩) n2 k3 cur hcl (by omega) (sl_of_own hoq) s5).mono ?_; rintro e w' ⟨rfl, rfl⟩; rw [HU.out])
                  clear hoq
                  go_loopw [59] (fun i wr => ∃ k5 : Nat, k5 ≤ l.length ∧ i = .int .i64 k5 ∧ wr.ownsRow w4.heap.size 2 1 (.slice (some ⟨w4.heap.size, 0, none⟩) n2 n2) n2 ((bump T (-1) l k5).map (Value.int .i64)) ∧ Below w4.heap.size w4 wr) (fun i _ => l.length - (intOf i).toNat)
                  case atStart => exact ⟨0, Nat.zero_le _, rfl, ht, hbq⟩
                  case round =>
                    clear ht hbq
                    obtain ⟨k5, hk5, rfl, htz, hbz⟩ := hrel
                    by_cases hlt5 : k5 < l.length
                    · obtain ⟨b2, off2, rfl, hbb2, hc2⟩ := (s0.below hbz).get k5 hlt5
                      have hj := s5 (l[k5]'hlt5) (List.getElem_mem _)
                      have hlg : l.getD k5 0 = l[k5]'hlt5 := by simp [List.getD, hlt5]
                      obtain ⟨j, hj2⟩ : ∃ j : Nat, l[k5]'hlt5 = (j : Int) := ⟨(l[k5]'hlt5).toNat, by omega⟩
                      rw [hj2] at hc2 hj hlg
                      have hbl := bump_len T (-1) l k5
                      have hjb : j < (bump T (-1) l k5).length := by omega
                      have hnk := (bump_near hnear (v := -1) (by decide) (by decide) l k5).getD j
                      have hc3 := own_get htz hjb
                      have hxe : (bump T (-1) l k5).getD j 0 = (bump T (-1) l k5)[j]'hjb := by simp [List.getD, hjb]
                      rw [← hxe] at hc3
                      have hbs : bump T (-1) l (k5 + 1) = (bump T (-1) l k5).set j ((bump T (-1) l k5).getD j 0 + (-1)) := by rw [bump, hlg, Int.toNat_natCast]
                      obtain ⟨x, hxx⟩ : ∃ x, (bump T (-1) l k5).getD j 0 = x := ⟨_, rfl⟩
                      rw [hxx] at hc3 hnk hbs
                      have hs := htz.stored j (.int .i64 (x + (-1)))
                      have hf := htz.frozenAt j
                      have HS := Lib.hid hs
                      have HBS := Lib.hid hbs
                      have hjn : (0 : Int) ≤ (j : Int) := by omega
                      have hjl : (j : Int) < (n2 : Int) := by omega
                      clear hs hbs hxx hxe hlg hj2 htz s0 s5
                      go_wp2
                      go_roundw
                      case rel =>
                        refine ⟨k5 + 1, by omega, by go_num, ?_, hbz.setCell (p := ⟨w4.heap.size, j, none⟩) (Nat.le_refl _) _⟩
                        rw [HBS.out, List.map_set]
                        exact HS.out.1
                      case measure => simp [intOf]; omega
                    · have : k5 = l.length := by omega
                      subst this
                      go_wp2
                      go_roundw
                      case rel => exact ⟨k2 + 1, by omega, by go_num, by rw [HST.out]; exact htz, hbz⟩
                      case measure => simp [intOf]; omega
                · have hv : tollV cur l = 1 := by unfold tollV; rw [hu]; rfl
                  rw [hv] at HST
                  have HU := Lib.hid hu
                  clear hu hv
                  go_wp2_with (go_at_call 23; refine (impl_isEven_c wr w4.heap.size _ a l.length c l rfl s3 (s0.below hbq) (some ⟨g, 0, none⟩) n2 k3 cur hcl (by omega) (sl_of_own hoq) s5).mono ?_; rintro e w' ⟨rfl, rfl⟩; rw [HU.out])
                  clear hoq
                  go_loopw [59] (fun i wr => ∃ k5 : Nat, k5 ≤ l.length ∧ i = .int .i64 k5 ∧ wr.ownsRow w4.heap.size 2 1 (.slice (some ⟨w4.heap.size, 0, none⟩) n2 n2) n2 ((bump T (1) l k5).map (Value.int .i64)) ∧ Below w4.heap.size w4 wr) (fun i _ => l.length - (intOf i).toNat)
                  case atStart => exact ⟨0, Nat.zero_le _, rfl, ht, hbq⟩
                  case round =>
                    clear ht hbq
                    obtain ⟨k5, hk5, rfl, htz, hbz⟩ := hrel
                    by_cases hlt5 : k5 < l.length
                    · obtain ⟨b2, off2, rfl, hbb2, hc2⟩ := (s0.below hbz).get k5 hlt5
                      have hj := s5 (l[k5]'hlt5) (List.getElem_mem _)
                      have hlg : l.getD k5 0 = l[k5]'hlt5 := by simp [List.getD, hlt5]
                      obtain ⟨j, hj2⟩ : ∃ j : Nat, l[k5]'hlt5 = (j : Int) := ⟨(l[k5]'hlt5).toNat, by omega⟩
                      rw [hj2] at hc2 hj hlg
                      have hbl := bump_len T (1) l k5
                      have hjb : j < (bump T (1) l k5).length := by omega
                      have hnk := (bump_near hnear (v := 1) (by decide) (by decide) l k5).getD j
                      have hc3 := own_get htz hjb
                      have hxe : (bump T (1) l k5).getD j 0 = (bump T (1) l k5)[j]'hjb := by simp [List.getD, hjb]
                      rw [← hxe] at hc3
                      have hbs : bump T (1) l (k5 + 1) = (bump T (1) l k5).set j ((bump T (1) l k5).getD j 0 + (1)) := by rw [bump, hlg, Int.toNat_natCast]
                      obtain ⟨x, hxx⟩ : ∃ x, (bump T (1) l k5).getD j 0 = x := ⟨_, rfl⟩
                      rw [hxx] at hc3 hnk hbs
                      have hs := htz.stored j (.int .i64 (x + (1)))
                      have hf := htz.frozenAt j
                      have HS := Lib.hid hs
                      have HBS := Lib.hid hbs
                      have hjn : (0 : Int) ≤ (j : Int) := by omega
                      have hjl : (j : Int) < (n2 : Int) := by omega
                      clear hs hbs hxx hxe hlg hj2 htz s0 s5
                      go_wp2
                      go_roundw
                      case rel =>
                        refine ⟨k5 + 1, by omega, by go_num, ?_, hbz.setCell (p := ⟨w4.heap.size, j, none⟩) (Nat.le_refl _) _⟩
                        rw [HBS.out, List.map_set]
                        exact HS.out.1
                      case measure => simp [intOf]; omega
                    · have : k5 = l.length := by omega
                      subst this
                      go_wp2
                      go_roundw
                      case rel => exact ⟨k2 + 1, by omega, by go_num, by rw [HST.out]; exact htz, hbz⟩
                      case measure => simp [intOf]; omega
              · have : k2 = n := by omega
                subst this
                have htl := tolls_len D cur n2 k2
                obtain ⟨G, hG⟩ : ∃ G, most ((tolls D cur n2 k2).getD 0 0) (tolls D cur n2 k2) n2 = G := ⟨_, rfl⟩
                have htop := top_of (D := D) (G := G) hcl h1n (by rw [HDL.out]; exact hG)
                have hfl : flipped D cur = flips (tolls D cur n2 k2) (topOf D cur) cur n2 := by unfold flipped; rw [hcl, HDL.out]
                have HFL := Lib.hid hfl
                obtain ⟨T, hT⟩ : ∃ T, tolls D cur n2 k2 = T := ⟨_, rfl⟩
                rw [hT] at htl ht HFL hG
                have HG := Lib.hid hG
                have hoq := own_below ho4 hbq (Nat.le_refl _)
                clear hfl hT hG hx4 ho4
                have hBq : Below w2.heap.size w2 wr := hB4.trans (hbq.mono (by omega))
                have hmax := Max_i64_c wr wr.heap.size (some ⟨w4.heap.size, 0, none⟩) n2 n2 T htl h1n (by omega) (sl_of_own ht)
                rw [HG.out] at hmax
                have HMAX := Lib.hid hmax
                clear hmax
                by_cases hkM : k = M
                · obtain ⟨e1, e2, e3⟩ := fa_none (HANS.out.trans (HGO.out.symm.trans (by rw [hkM, Nat.sub_self]; exact flipGo_end HMEM.out)))
                  have E := Lib.hid (And.intro e1 (And.intro e2 e3))
                  have hkb : ((k : Int) == (M : Int)) = true := by simp; omega
                  clear e1 e2 e3 htop
                  go_wp2_with (go_at_call 24; refine HMAX.out.mono ?_; rintro e w' ⟨rfl, rfl⟩)
                  go_ret3
                  exact ⟨.slice none 0 0, by rw [E.out.1, E.out.2.1]; rfl, by rw [E.out.2.2]; exact World.ownsRow_nil _ _ _ _, hB2.trans (hBq.mono hB2.size)⟩
                · have hkb : ((k : Int) == (M : Int)) = false := by simp; omega
                  by_cases hG0 : G ≤ 0
                  · obtain ⟨e1, e2, e3⟩ := fa_none (HANS.out.trans (HGO.out.symm.trans (flipGo_stuck HMEM.out (htop.1 hG0))))
                    have E := Lib.hid (And.intro e1 (And.intro e2 e3))
                    clear e1 e2 e3 htop
                    go_wp2_with (go_at_call 24; refine HMAX.out.mono ?_; rintro e w' ⟨rfl, rfl⟩)
                    go_ret3
                    exact ⟨.slice none 0 0, by rw [E.out.1, E.out.2.1]; rfl, by rw [E.out.2.2]; exact World.ownsRow_nil _ _ _ _, hB2.trans (hBq.mono hB2.size)⟩
                  · have htop2 := htop.2 (by omega)
                    have hnext : flipGo D (M - (k + 1)) (k + 1) (flipped D cur) = R := by
                      rw [← flipGo_next HMEM.out (by rw [htop2]; omega), show M - (k + 1) + 1 = M - k by omega]
                      exact HGO.out
                    rw [htop2] at HFL
                    have HN := Lib.hid hnext
                    clear htop htop2 hnext
                    go_wp2_with (go_at_call 24; refine HMAX.out.mono ?_; rintro e w' ⟨rfl, rfl⟩)
                    go_loopw [83] (fun i wr => ∃ k4 : Nat, k4 ≤ n2 ∧ i = .int .i64 k4 ∧ wr.ownsRow w2.heap.size 4 1 (.slice (some ⟨g, 0, none⟩) n2 k3) n2 ((flips T G cur k4).map Value.bool) ∧ wr.ownsRow w4.heap.size 2 1 (.slice (some ⟨w4.heap.size, 0, none⟩) n2 n2) n2 (T.map (Value.int .i64)) ∧ Below w2.heap.size w2 wr) (fun i _ => n2 - (intOf i).toNat)
                    case atStart => exact ⟨0, Nat.zero_le _, rfl, hoq, ht, hBq⟩
                    case round =>
                      clear hoq ht hBq hbq
                      obtain ⟨k4, hk4, rfl, hof, htf, hbf⟩ := hrel
                      by_cases hlt4 : k4 < n2
                      · have hkt : k4 < T.length := by omega
                        have hc2 := own_get htf hkt
                        have hfl2 := flips_len T G cur k4
                        have hkf : k4 < (flips T G cur k4).length := by omega
                        have hc3 := own_get hof hkf
                        have hgt : T.getD k4 0 = T[k4]'hkt := by simp [List.getD, hkt]
                        have hgf : (flips T G cur k4).getD k4 false = (flips T G cur k4)[k4]'hkf := by simp [List.getD, hkf]
                        have hfs : flips T G cur (k4 + 1) = if T.getD k4 0 == G then (flips T G cur k4).set k4 (!(flips T G cur k4).getD k4 false) else flips T G cur k4 := rfl
                        rw [← hgt] at hc2
                        rw [← hgf] at hc3
                        obtain ⟨x, hx1⟩ : ∃ x, T.getD k4 0 = x := ⟨_, rfl⟩
                        obtain ⟨u, hu1⟩ : ∃ u, (flips T G cur k4).getD k4 false = u := ⟨_, rfl⟩
                        rw [hx1] at hc2 hfs
                        rw [hu1] at hc3 hfs
                        have hs := hof.stored k4 (.bool (!u))
                        have hfz := hof.frozenAt k4
                        have HS := Lib.hid hs
                        clear hs hgt hgf hx1 hu1
                        cases hxg : x == G
                        · rw [hxg, if_neg (by decide)] at hfs
                          have HFS := Lib.hid hfs
                          clear hfs
                          go_wp2
                          go_roundw
                          case rel => exact ⟨k4 + 1, by omega, by go_num, by rw [HFS.out]; exact hof, htf, hbf⟩
                          case measure => simp [intOf]; omega
                        · rw [hxg, if_pos rfl] at hfs
                          have HFS := Lib.hid hfs
                          clear hfs
                          go_wp2
                          go_roundw
                          case rel =>
                            refine ⟨k4 + 1, by omega, by go_num, ?_, ownsRow_setCell_below htf (a := ⟨g, k4, none⟩) (by simp only []; omega) _, hbf.setCell (p := ⟨g, k4, none⟩) hbg _⟩
                            rw [HFS.out, List.map_set]
                            exact HS.out.1
                          case measure => simp [intOf]; omega
                      · have : k4 = n2 := by omega
                        subst this
                        go_wp2
                        go_roundw
                        case rel => exact ⟨k + 1, flipped D cur, by omega, by go_num, by rw [flipped_len, hcl], HN.out, by rw [HFL.out]; exact hof, hbf⟩
                        case measure => simp [intOf]; omega
          · have HMEM := Lib.hid hmem
            clear hmem
            go_wp2
            go_ret3
            obtain ⟨e1, e2, e3⟩ := fa_some (HANS.out.trans (HGO.out.symm.trans (flipGo_in HMEM.out)))
            refine ⟨.slice (some ⟨g, 0, none⟩) n2 k3, ?_, ?_, hB2.trans ((hb.trans (hb4.mono hzr)).mono hB2.size)⟩
            · rw [e1, e2]; rfl
            · unfold Ow
              rw [e3, List.length_map]
              show World.ownsRow _ _ _ _ _ cur.length _
              rw [hcl]
              exact own_base (own_below ho hb4 (Nat.le_refl _)) hB2.size


theorem infoIntS : (Try.prog.info? 3).map (fun i => (i.zero, i.size, i.bytes)) = some (some (.int .i64 0), 1, 8) := by kernel_rfl

set_option maxRecDepth 100000 in
set_option maxHeartbeats 4000000 in
theorem spec_FlipRounds_c (w : World) (m : Int) (A : Option Addr) (n cap : Nat) (ys : List RowH) (D : List (List Int)) (hd : dat ys = D) (hl : ys.length = n) (hn : n ≤ 1048576) (hr : ∀ r ∈ ys, r.2.2.length ≤ 1048576) (hx0 : Sl2 w w.heap.size A ys)
    (A2 : Option Addr) (n2 cap2 : Nat) (bs : List Bool) (hl2 : bs.length = n2) (hn2 : n2 ≤ 1048576) (hy0 : Sl w w.heap.size A2 (bs.map Value.bool)) (mo : Int) :
    Calls Try.prog 9 #[.agg #[.int .i64 m, .slice A n cap], .slice A2 n2 cap2, .int .i64 mo] w fun e w' => ∃ v, e = .returned (.tuple #[v, .int .i64 (flipR m D bs mo), .bool (flipOk m D bs mo)]) ∧ Ow w' w.heap.size 4 v ((flipL m D bs mo).map Value.bool) ∧ Below w.heap.size w w' := by
  obtain ⟨w1, ew⟩ : ∃ q : World, q = w.alloc (.cells #[.int .i64 m, .slice A n cap] 26) := ⟨_, rfl⟩
  have hB : Below w.heap.size w w1 := by rw [ew]; exact (Below.refl _ _).alloc (Nat.le_refl _) _
  have c0 : w1.cell? ⟨w.heap.size, 0, none⟩ = some (.int .i64 m) := by rw [ew]; (first | (simp; done) | (simp (disch := (first | (simp; done) | (simp; omega))) [World.cell?_alloc_at]; done) | (simp (disch := (first | (simp; done) | (simp; omega))) [World.cell?_alloc_past]; done) | (simp (disch := (first | (simp; done) | (simp; omega))) [World.cell?_alloc_at, World.cell?_alloc_past]; done) | (simp (disch := (first | (simp; done) | (simp; omega))) [World.frozen?_alloc_at]; done) | (simp (disch := (first | (simp; done) | (simp; omega))) [World.frozen?_alloc_past]; done) | (simp (disch := (first | (simp; done) | (simp; omega))) [World.frozen?_alloc_at, World.frozen?_alloc_past]; done))
  have c1 : w1.cell? ⟨w.heap.size, 1, none⟩ = some (.slice A n cap) := by rw [ew]; (first | (simp; done) | (simp (disch := (first | (simp; done) | (simp; omega))) [World.cell?_alloc_at]; done) | (simp (disch := (first | (simp; done) | (simp; omega))) [World.cell?_alloc_past]; done) | (simp (disch := (first | (simp; done) | (simp; omega))) [World.cell?_alloc_at, World.cell?_alloc_past]; done) | (simp (disch := (first | (simp; done) | (simp; omega))) [World.frozen?_alloc_at]; done) | (simp (disch := (first | (simp; done) | (simp; omega))) [World.frozen?_alloc_past]; done) | (simp (disch := (first | (simp; done) | (simp; omega))) [World.frozen?_alloc_at, World.frozen?_alloc_past]; done))
  have hz : w1.heap.size = w.heap.size + 1 := by rw [ew]; simp
  have hx := (hx0.below hB).more hB.size
  have hy := (hy0.below hB).more hB.size
  clear hx0 hy0
  have hdl : D.length = n := by rw [← hd, dat_len, hl]
  cases hv : validGraphB m D
  · obtain ⟨e1, e2, e3⟩ := fa_no (m := m) (D := D) (bs := bs) (k := mo) (by unfold memOkB; rw [hv]; rfl)
    rw [e1, e2, e3]
    have HV := Lib.hid hv
    clear hv e1 e2 e3
    go_enter Try.func9, Try.ntmps9
    go_wp2_with fail
    rw [← ew]
    clear ew
    go_wp2_with (go_at_call 25; refine (spec_l07Graph_c w1 w.heap.size m _ A n cap ys D hd c0 c1 hl hn hr hx).mono ?_; rintro e w2 ⟨rfl, q, rfl⟩; rw [HV.out])
    go_ret3
    exact ⟨_, rfl, World.ownsRow_nil _ _ _ _, below_drewN hB _⟩
  · have hin := vg_in hv
    obtain ⟨hm1, hm2, hn32, h32⟩ := vg_short hv
    cases he : (n2 : Int) == m
    · have hne : ¬ (n2 : Int) = m := by simpa using he
      have hnd : decide ((n2 : Int) = m) = false := by simpa using he
      obtain ⟨e1, e2, e3⟩ := fa_no (m := m) (D := D) (bs := bs) (k := mo) (by unfold memOkB; rw [hv, hl2, he]; rfl)
      rw [e1, e2, e3]
      have HV := Lib.hid hv
      clear hv e1 e2 e3
      go_enter Try.func9, Try.ntmps9
      go_wp2_with fail
      rw [← ew]
      clear ew
      go_wp2_with (go_at_call 25; refine (spec_l07Graph_c w1 w.heap.size m _ A n cap ys D hd c0 c1 hl hn hr hx).mono ?_; rintro e w2 ⟨rfl, q, rfl⟩; rw [HV.out])
      go_ret3
      exact ⟨_, rfl, World.ownsRow_nil _ _ _ _, below_drewN hB _⟩
    · obtain rfl : (n2 : Int) = m := by simpa using he
      cases hw : inB mo 0 64
      · obtain ⟨e1, e2, e3⟩ := fa_no (m := (n2 : Int)) (D := D) (bs := bs) (k := mo) (by unfold memOkB; rw [hw, Bool.and_false])
        rw [e1, e2, e3]
        have HV := Lib.hid hv
        have HW := Lib.hid hw
        clear hv hw e1 e2 e3
        go_enter Try.func9, Try.ntmps9
        go_wp2_with fail
        rw [← ew]
        clear ew
        go_wp2_with (first
          | (go_at_call 25; refine (spec_l07Graph_c w1 w.heap.size _ _ A n cap ys D hd c0 c1 hl hn hr hx).mono ?_; rintro e w2 ⟨rfl, q, rfl⟩; rw [HV.out])
          | (go_at_call 26; refine (spec_l00In_c _ _ _ _).mono ?_; rintro e w' ⟨rfl, rfl⟩; rw [HW.out]))
        go_ret3
        exact ⟨_, rfl, World.ownsRow_nil _ _ _ _, below_drewN hB _⟩
      · have hw2 := inB_true.1 hw
        obtain ⟨M, rfl⟩ : ∃ M : Nat, mo = (M : Int) := ⟨mo.toNat, by omega⟩
        obtain ⟨R, hR⟩ : ∃ R, flipGo D M 0 bs = R := ⟨_, rfl⟩
        have hans := fa_yes (m := (n2 : Int)) (R := R) (by unfold memOkB; rw [hv, hw, hl2, he]; rfl) hR
        have HANS := Lib.hid hans
        have HV := Lib.hid hv
        have HW := Lib.hid hw
        have HR := Lib.hid hR
        have hin2 : ∀ l ∈ D, ∀ x ∈ l, 0 ≤ x ∧ x < n2 := hin
        have HIN := Lib.hid hin2
        have H32 := Lib.hid h32
        have HDL := Lib.hid hdl
        have h1n : 1 ≤ n2 := by omega
        clear hv hw hans hR hin hin2 h32 he
        obtain ⟨gb, hgb⟩ : ∃ gb, w.heap.size = gb := ⟨_, rfl⟩
        have HGB := Lib.hid hgb
        go_enter Try.func9, Try.ntmps9
        go_wp2_with fail
        rw [← ew]
        clear ew
        rw [hgb] at c0 c1 hz hB
        clear hgb
        refine (spec_l07Graph_c w1 gb _ _ A n cap ys D hd c0 c1 hl hn hr hx).mono ?_
        rintro e w2' ⟨rfl, q, rfl⟩
        rw [HV.out]
        obtain ⟨w2, ew2⟩ : ∃ x : World, x = w1.drewN q := ⟨_, rfl⟩
        have d0 : w2.cell? ⟨gb, 0, none⟩ = some (.int .i64 (n2 : Int)) := by rw [ew2]; exact c0
        have d1 : w2.cell? ⟨gb, 1, none⟩ = some (.slice A n cap) := by rw [ew2]; exact c1
        have hB2 : Below gb w w2 := by rw [ew2]; exact below_drewN hB _
        have hz2 : gb < w2.heap.size := by rw [ew2]; show gb < w1.heap.size; omega
        have hx2 : Sl2 w2 w2.heap.size A ys := by rw [ew2]; exact hx.drewN q
        have hy2 : Sl w2 w2.heap.size A2 (bs.map Value.bool) := by rw [ew2]; exact hy.drewN q
        rw [← ew2]
        clear ew2 c0 c1 hx hy hB hz
        go_wp2_with (first
          | (go_at_call 26; refine (spec_l00In_c _ _ _ _).mono ?_; rintro e w' ⟨rfl, rfl⟩; rw [HW.out])
          | (at_builtin; refine appS Try.underlying28 infoBool rfl (by decide) rfl _ _ rfl _ _ [] rfl (own_empty w2 w2.heap.size _ (Nat.le_refl _)) _ _ n2 cap2 (bs.map Value.bool) rfl (by simpa using hl2) (hy2.alloc (Nat.le_refl _) _) one_bool (by simp; omega) (by simp) ?_; intro v' w3 ho3 hb3))
        have hb3 : Below w2.heap.size w2 w3 := ((Below.refl _ _).alloc (Nat.le_refl _) _).trans hb3
        rw [List.nil_append] at ho3
        obtain ⟨A3, k3, rfl, hp3⟩ := ho3.opn
        clear ho3 hy2
        rw [hl2] at hp3 ⊢
        obtain ⟨g, q3, hv3, hbg, hgs⟩ := hp3.form (by omega)
        injection hv3 with hv1 hv2 hv4
        subst hv1
        clear hv2 hv4
        go_loopw [10] (fun r wr => ∃ (k : Nat) (cur : List Bool), k ≤ M ∧ r = .int .i64 k ∧ cur.length = n2 ∧ (k = 0 ∨ memberB D cur = false) ∧ flipGo D (M - k) k cur = R ∧ wr.ownsRow w2.heap.size 4 1 (.slice (some ⟨g, 0, none⟩) n2 k3) n2 (cur.map Value.bool) ∧ Below w2.heap.size w2 wr) (fun r _ => M + 1 - (intOf r).toNat)
        case atStart => exact ⟨0, bs, Nat.zero_le _, rfl, hl2, .inl rfl, HR.out, hp3, hb3⟩
        case round =>
          clear hp3
          obtain ⟨k, cur, hk, rfl, hcl, h0m, hgo, ho, hb⟩ := hrel
          have HGO := Lib.hid hgo
          have H0M := Lib.hid h0m
          have hzr := hb.size
          have f0 := (hb.cell (p := ⟨gb, 0, none⟩) (by simp only []; omega)).trans d0
          have f1 := (hb.cell (p := ⟨gb, 1, none⟩) (by simp only []; omega)).trans d1
          have hxr := hx2.up hb
          have hgr : g < wr.heap.size := by
            obtain ⟨b', off', he', hlt', _⟩ := (sl_of_own ho).get 0 (by rw [hcl]; omega)
            injection he' with he'
            injection he' with he1 he2
            omega
          have hmc := spec_l07Member_c wr gb wr.heap.size wr.heap.size A n cap ys D hd f1 hl hn hr hxr (some ⟨g, 0, none⟩) n2 k3 cur hcl (by omega) (sl_of_own ho) HIN.out
          clear hgo d0 h0m
          cases hmem : memberB D cur
          · rw [hmem] at hmc
            have HMC := Lib.hid hmc
            have HMEM := Lib.hid hmem
            clear hmem hmc
            by_cases hkM : k = M
            · obtain ⟨e1, e2, e3⟩ := fa_none (HANS.out.trans (HGO.out.symm.trans (by rw [hkM, Nat.sub_self]; exact flipGo_end HMEM.out)))
              have E := Lib.hid (And.intro e1 (And.intro e2 e3))
              have hkb : ((k : Int) == (M : Int)) = true := by simp; omega
              clear e1 e2 e3
              go_wp2_with (go_at_call 27; refine HMC.out.mono ?_; rintro e w' ⟨rfl, rfl⟩)
              go_ret3
              exact ⟨.slice none 0 0, by rw [E.out.1, E.out.2.1]; rfl, by rw [E.out.2.2]; exact World.ownsRow_nil _ _ _ _, by rw [HGB.out]; exact hB2.trans (hb.mono (by omega))⟩
            · have hkb : ((k : Int) == (M : Int)) = false := by simp; omega
              have hmk := fun W : World => run_mk (P := Try.prog) Try.underlying55 infoIntS rfl (by decide) n2 (by omega) .i64 .i64 W
              have hlt0 : gb < wr.heap.size := by omega
              go_wp2_with (go_at_call 27; refine HMC.out.mono ?_; rintro e w' ⟨rfl, rfl⟩)
              clear hmk
              obtain ⟨w4, ew4⟩ : ∃ x : World, x = wr := ⟨_, rfl⟩
              rw [← ew4] at f0 f1 ho hb hzr hxr hgr hlt0 ⊢
              clear ew4
              obtain ⟨w5, e5⟩ : ∃ q : World, q = w4.alloc (.cells (zeroRow (.int .i64 0) n2) 3) := ⟨_, rfl⟩
              rw [← e5]
              have ht5 : w5.ownsRow w4.heap.size 3 1 (.slice (some ⟨w4.heap.size, 0, none⟩) n2 n2) n2 ((tolls D cur n2 0).map (Value.int .i64)) := by
                rw [e5]
                have h := own_mk w4 w4.heap.size 3 (.int .i64 0) n2 (Nat.le_refl _) (by omega)
                simpa [tolls] using h
              have hB5 : Below w4.heap.size w4 w5 := by rw [e5]; exact (Below.refl _ _).alloc (Nat.le_refl _) _
              have hx4 := hxr
              have g1 := f1
              clear e5 hxr f1 f0
              go_loopw [49] (fun i wq => ∃ k2 : Nat, k2 ≤ n ∧ i = .int .i64 k2 ∧ wq.ownsRow w4.heap.size 3 1 (.slice (some ⟨w4.heap.size, 0, none⟩) n2 n2) n2 ((tolls D cur n2 k2).map (Value.int .i64)) ∧ Below w4.heap.size w4 wq) (fun i _ => n - (intOf i).toNat)
              case atStart => exact ⟨0, Nat.zero_le _, rfl, ht5, hB5⟩
              case round =>
                clear ht5 hB5
                obtain ⟨k2, hk2, rfl, ht, hbq⟩ := hrel
                have g2 := (hbq.cell (p := ⟨gb, 1, none⟩) (by simp only []; omega)).trans g1
                by_cases hlt2 : k2 < n
                · obtain ⟨b1, off, rfl, hbb1, hcw⟩ := hx4.1.get k2 (by omega)
                  have hc1 := (hbq.cell (p := ⟨b1, off + k2, none⟩) (by simp only []; omega)).trans hcw
                  have s0 := hx4.2 (ys[k2]'(by omega)) (List.getElem_mem _)
                  have s3 := hr (ys[k2]'(by omega)) (List.getElem_mem _)
                  have hkd : k2 < D.length := by have := HDL.out; omega
                  have e1 : D[k2]'hkd = (ys[k2]'(by omega)).2.2 := by
                    rw [← dat_get (by omega)]
                    simp only [hd]
                  have s5 := HIN.out (D[k2]'hkd) (List.getElem_mem _)
                  have s6 := H32.out (D[k2]'hkd) (List.getElem_mem _)
                  have hgd : D.getD k2 [] = D[k2]'hkd := by simp [List.getD, hkd]
                  obtain ⟨⟨a, c, l⟩, hxx⟩ : ∃ x, ys[k2]'(by omega) = x := ⟨_, rfl⟩
                  rw [hxx] at hc1 hcw s0 s3 e1
                  simp only [rowV] at hc1 hcw s0 s3 e1
                  rw [e1] at s5 s6 hgd
                  have hnear := tolls_near H32.out cur n2 k2
                  have htl := tolls_len D cur n2 k2
                  have hst : tolls D cur n2 (k2 + 1) = bump (tolls D cur n2 k2) (tollV cur l) l l.length := by rw [tolls, hgd]
                  have HST := Lib.hid hst
                  obtain ⟨T, hT⟩ : ∃ T, tolls D cur n2 k2 = T := ⟨_, rfl⟩
                  rw [hT] at hnear htl HST ht
                  have hoq := own_below ho hbq (Nat.le_refl _)
                  clear hst hT hgd e1 hxx hkd
                  cases hu : unevenB cur l
                  · have hv : tollV cur l = -1 := by unfold tollV; rw [hu]; rfl
                    rw [hv] at HST
                    have HU := Lib.hid hu
                    clear hu hv
                    go_wp2_with (go_at_call 28; refine (spec_l07Uneven_c wr w4.heap.size _ a l.length c l rfl s3 (s0.below hbq) (some ⟨g, 0, none⟩) n2 k3 cur hcl (by omega) (sl_of_own hoq) s5).mono ?_; rintro e w' ⟨rfl, rfl⟩; rw [HU.out])
                    clear hoq hc1 g2
                    go_loopw [65] (fun i wz => ∃ k5 : Nat, k5 ≤ l.length ∧ i = .int .i64 k5 ∧ wz.ownsRow w4.heap.size 3 1 (.slice (some ⟨w4.heap.size, 0, none⟩) n2 n2) n2 ((bump T (-1) l k5).map (Value.int .i64)) ∧ Below w4.heap.size w4 wz) (fun i _ => l.length - (intOf i).toNat)
                    case atStart => exact ⟨0, Nat.zero_le _, rfl, ht, hbq⟩
                    case round =>
                      clear ht hbq
                      obtain ⟨k5, hk5, rfl, htz, hbz⟩ := hrel
                      by_cases hlt5 : k5 < l.length
                      · have g3 := (hbz.cell (p := ⟨gb, 1, none⟩) (by simp only []; omega)).trans g1
                        have hc4 := (hbz.cell (p := ⟨b1, off + k2, none⟩) (by simp only []; omega)).trans hcw
                        obtain ⟨b2, off2, rfl, hbb2, hc2⟩ := (s0.below hbz).get k5 hlt5
                        have hj := s5 (l[k5]'hlt5) (List.getElem_mem _)
                        have hlg : l.getD k5 0 = l[k5]'hlt5 := by simp [List.getD, hlt5]
                        obtain ⟨j, hj2⟩ : ∃ j : Nat, l[k5]'hlt5 = (j : Int) := ⟨(l[k5]'hlt5).toNat, by omega⟩
                        rw [hj2] at hc2 hj hlg
                        have hbl := bump_len T (-1) l k5
                        have hjb : j < (bump T (-1) l k5).length := by omega
                        have hnk := (bump_near hnear (v := -1) (by decide) (by decide) l k5).getD j
                        have hc3 := own_get htz hjb
                        have hxe : (bump T (-1) l k5).getD j 0 = (bump T (-1) l k5)[j]'hjb := by simp [List.getD, hjb]
                        rw [← hxe] at hc3
                        have hbs : bump T (-1) l (k5 + 1) = (bump T (-1) l k5).set j ((bump T (-1) l k5).getD j 0 + (-1)) := by rw [bump, hlg, Int.toNat_natCast]
                        obtain ⟨x, hxx⟩ : ∃ x, (bump T (-1) l k5).getD j 0 = x := ⟨_, rfl⟩
                        rw [hxx] at hc3 hnk hbs
                        have hs := htz.stored j (.int .i64 (x + (-1)))
                        have hf := htz.frozenAt j
                        have HS := Lib.hid hs
                        have HBS := Lib.hid hbs
                        have hjn : (0 : Int) ≤ (j : Int) := by omega
                        have hjl : (j : Int) < (n2 : Int) := by omega
                        clear hs hbs hxx hxe hlg hj2 htz s0 s5 hcw g1
                        go_wp2
                        go_roundw
                        case rel =>
                          refine ⟨k5 + 1, by omega, by go_num, ?_, hbz.setCell (p := ⟨w4.heap.size, j, none⟩) (Nat.le_refl _) _⟩
                          rw [HBS.out, List.map_set]
                          exact HS.out.1
                        case measure => simp [intOf]; omega
                      · have : k5 = l.length := by omega
                        subst this
                        go_wp2
                        go_roundw
                        case rel => exact ⟨k2 + 1, by omega, by go_num, by rw [HST.out]; exact htz, hbz⟩
                        case measure => simp [intOf]; omega
                  · have hv : tollV cur l = 1 := by unfold tollV; rw [hu]; rfl
                    rw [hv] at HST
                    have HU := Lib.hid hu
                    clear hu hv
                    go_wp2_with (go_at_call 28; refine (spec_l07Uneven_c wr w4.heap.size _ a l.length c l rfl s3 (s0.below hbq) (some ⟨g, 0, none⟩) n2 k3 cur hcl (by omega) (sl_of_own hoq) s5).mono ?_; rintro e w' ⟨rfl, rfl⟩; rw [HU.out])
                    clear hoq hc1 g2
                    go_loopw [65] (fun i wz => ∃ k5 : Nat, k5 ≤ l.length ∧ i = .int .i64 k5 ∧ wz.ownsRow w4.heap.size 3 1 (.slice (some ⟨w4.heap.size, 0, none⟩) n2 n2) n2 ((bump T (1) l k5).map (Value.int .i64)) ∧ Below w4.heap.size w4 wz) (fun i _ => l.length - (intOf i).toNat)
                    case atStart => exact ⟨0, Nat.zero_le _, rfl, ht, hbq⟩
                    case round =>
                      clear ht hbq
                      obtain ⟨k5, hk5, rfl, htz, hbz⟩ := hrel
                      by_cases hlt5 : k5 < l.length
                      · have g3 := (hbz.cell (p := ⟨gb, 1, none⟩) (by simp only []; omega)).trans g1
                        have hc4 := (hbz.cell (p := ⟨b1, off + k2, none⟩) (by simp only []; omega)).trans hcw
                        obtain ⟨b2, off2, rfl, hbb2, hc2⟩ := (s0.below hbz).get k5 hlt5
                        have hj := s5 (l[k5]'hlt5) (List.getElem_mem _)
                        have hlg : l.getD k5 0 = l[k5]'hlt5 := by simp [List.getD, hlt5]
                        obtain ⟨j, hj2⟩ : ∃ j : Nat, l[k5]'hlt5 = (j : Int) := ⟨(l[k5]'hlt5).toNat, by omega⟩
                        rw [hj2] at hc2 hj hlg
                        have hbl := bump_len T (1) l k5
                        have hjb : j < (bump T (1) l k5).length := by omega
                        have hnk := (bump_near hnear (v := 1) (by decide) (by decide) l k5).getD j
                        have hc3 := own_get htz hjb
                        have hxe : (bump T (1) l k5).getD j 0 = (bump T (1) l k5)[j]'hjb := by simp [List.getD, hjb]
                        rw [← hxe] at hc3
                        have hbs : bump T (1) l (k5 + 1) = (bump T (1) l k5).set j ((bump T (1) l k5).getD j 0 + (1)) := by rw [bump, hlg, Int.toNat_natCast]
                        obtain ⟨x, hxx⟩ : ∃ x, (bump T (1) l k5).getD j 0 = x := ⟨_, rfl⟩
                        rw [hxx] at hc3 hnk hbs
                        have hs := htz.stored j (.int .i64 (x + (1)))
                        have hf := htz.frozenAt j
                        have HS := Lib.hid hs
                        have HBS := Lib.hid hbs
                        have hjn : (0 : Int) ≤ (j : Int) := by omega
                        have hjl : (j : Int) < (n2 : Int) := by omega
                        clear hs hbs hxx hxe hlg hj2 htz s0 s5 hcw g1
                        go_wp2
                        go_roundw
                        case rel =>
                          refine ⟨k5 + 1, by omega, by go_num, ?_, hbz.setCell (p := ⟨w4.heap.size, j, none⟩) (Nat.le_refl _) _⟩
                          rw [HBS.out, List.map_set]
                          exact HS.out.1
                        case measure => simp [intOf]; omega
                      · have : k5 = l.length := by omega
                        subst this
                        go_wp2
                        go_roundw
                        case rel => exact ⟨k2 + 1, by omega, by go_num, by rw [HST.out]; exact htz, hbz⟩
                        case measure => simp [intOf]; omega
                · have : k2 = n := by omega
                  subst this
                  have htl := tolls_len D cur n2 k2
                  have htop : topOf D cur = most 0 (tolls D cur n2 k2) n2 := by unfold topOf; rw [hcl, HDL.out]
                  have hfl : flipped D cur = flips (tolls D cur n2 k2) (topOf D cur) cur n2 := by unfold flipped; rw [hcl, HDL.out]
                  have hnt := tolls_near H32.out cur n2 k2
                  obtain ⟨T, hT⟩ : ∃ T, tolls D cur n2 k2 = T := ⟨_, rfl⟩
                  rw [hT] at htl ht htop hfl hnt
                  obtain ⟨G, hG⟩ : ∃ G, most 0 T n2 = G := ⟨_, rfl⟩
                  rw [hG] at htop
                  rw [htop] at hfl
                  have HFL := Lib.hid hfl
                  have HTOP := Lib.hid htop
                  have HG := Lib.hid hG
                  have hoq := own_below ho hbq (Nat.le_refl _)
                  have hBq : Below w2.heap.size w2 wr := hb.trans (hbq.mono (by omega))
                  clear hfl hT hG htop ho hb
                  go_wp2
                  go_loop [15, 86] (fun a i => ∃ k6 : Nat, k6 ≤ n2 ∧ i = .int .i64 k6 ∧ a = .int .i64 (most 0 T k6)) (fun _ i => n2 - (intOf i).toNat)
                  case atStart => exact ⟨0, Nat.zero_le _, rfl, rfl⟩
                  case round =>
                    obtain ⟨k6, hk6, rfl, rfl⟩ := hrel
                    by_cases hlt6 : k6 < n2
                    · have hkt : k6 < T.length := by omega
                      have hc3 := own_get ht hkt
                      have hgt : T.getD k6 0 = T[k6]'hkt := by simp [List.getD, hkt]
                      rw [← hgt] at hc3
                      have hs : most 0 T (k6 + 1) = maxI (most 0 T k6) (T.getD k6 0) := rfl
                      obtain ⟨x, hx1⟩ : ∃ x, most 0 T k6 = x := ⟨_, rfl⟩
                      obtain ⟨y, hy1⟩ : ∃ y, T.getD k6 0 = y := ⟨_, rfl⟩
                      rw [hx1, hy1] at hs
                      rw [hy1] at hc3
                      rw [hx1]
                      have HS := Lib.hid hs
                      clear hs hgt hx1 hy1
                      go_wp2
                      go_round
                      case rel => exact ⟨k6 + 1, by omega, by go_num, by rw [HS.out]; rfl⟩
                      case measure => simp [intOf]; omega
                    · have : k6 = n2 := by omega
                      subst this
                      rw [HG.out]
                      by_cases hG0 : G = 0
                      · obtain ⟨e1, e2, e3⟩ := fa_none (HANS.out.trans (HGO.out.symm.trans (flipGo_stuck HMEM.out (HTOP.out.trans hG0))))
                        have E := Lib.hid (And.intro e1 (And.intro e2 e3))
                        have hgb0 : (G == 0) = true := by simpa using hG0
                        clear e1 e2 e3
                        go_wp2
                        go_ret3
                        exact ⟨.slice none 0 0, by rw [E.out.1, E.out.2.1]; rfl, by rw [E.out.2.2]; exact World.ownsRow_nil _ _ _ _, by rw [HGB.out]; exact hB2.trans (hBq.mono (by omega))⟩
                      · have hgb0 : (G == 0) = false := by simpa using hG0
                        have hnext : flipGo D (M - (k + 1)) (k + 1) (flipped D cur) = R := by
                          rw [← flipGo_next HMEM.out (by rw [HTOP.out]; exact hG0), show M - (k + 1) + 1 = M - k by omega]
                          exact HGO.out
                        have HN := Lib.hid hnext
                        clear hnext
                        go_wp2
                        go_loopw [100] (fun i wf => ∃ k4 : Nat, k4 ≤ k6 ∧ i = .int .i64 k4 ∧ wf.ownsRow w2.heap.size 4 1 (.slice (some ⟨g, 0, none⟩) k6 k3) k6 ((flips T G cur k4).map Value.bool) ∧ wf.ownsRow w4.heap.size 3 1 (.slice (some ⟨w4.heap.size, 0, none⟩) k6 k6) k6 (T.map (Value.int .i64)) ∧ Below w2.heap.size w2 wf) (fun i _ => k6 - (intOf i).toNat)
                        case atStart => exact ⟨0, Nat.zero_le _, rfl, hoq, ht, hBq⟩
                        case round =>
                          clear hoq ht hBq hbq g2
                          obtain ⟨k4, hk4, rfl, hof, htf, hbf⟩ := hrel
                          by_cases hlt4 : k4 < k6
                          · have hkt : k4 < T.length := by omega
                            have hc2 := own_get htf hkt
                            have hfl2 := flips_len T G cur k4
                            have hkf : k4 < (flips T G cur k4).length := by omega
                            have hc3 := own_get hof hkf
                            have hgt : T.getD k4 0 = T[k4]'hkt := by simp [List.getD, hkt]
                            have hgf : (flips T G cur k4).getD k4 false = (flips T G cur k4)[k4]'hkf := by simp [List.getD, hkf]
                            have hfs : flips T G cur (k4 + 1) = if T.getD k4 0 == G then (flips T G cur k4).set k4 (!(flips T G cur k4).getD k4 false) else flips T G cur k4 := rfl
                            rw [← hgt] at hc2
                            rw [← hgf] at hc3
                            obtain ⟨x, hx1⟩ : ∃ x, T.getD k4 0 = x := ⟨_, rfl⟩
                            obtain ⟨u, hu1⟩ : ∃ u, (flips T G cur k4).getD k4 false = u := ⟨_, rfl⟩
                            rw [hx1] at hc2 hfs
                            rw [hu1] at hc3 hfs
                            have hs := hof.stored k4 (.bool (!u))
                            have hfz := hof.frozenAt k4
                            have HS := Lib.hid hs
                            clear hs hgt hgf hx1 hu1
                            cases hxg : x == G
                            · rw [hxg, if_neg (by decide)] at hfs
                              have HFS := Lib.hid hfs
                              clear hfs
                              go_wp2
                              go_roundw
                              case rel => exact ⟨k4 + 1, by omega, by go_num, by rw [HFS.out]; exact hof, htf, hbf⟩
                              case measure => simp [intOf]; omega
                            · rw [hxg, if_pos rfl] at hfs
                              have HFS := Lib.hid hfs
                              clear hfs
                              go_wp2
                              go_roundw
                              case rel =>
                                refine ⟨k4 + 1, by omega, by go_num, ?_, ownsRow_setCell_below htf (a := ⟨g, k4, none⟩) (by simp only []; omega) _, hbf.setCell (p := ⟨g, k4, none⟩) hbg _⟩
                                rw [HFS.out, List.map_set]
                                exact HS.out.1
                              case measure => simp [intOf]; omega
                          · have : k4 = k6 := by omega
                            subst this
                            have hfe := HFL.out
                            rw [← hfe] at hof
                            have hfl3 : (flipped D cur).length = k4 := by rw [flipped_len, hcl]
                            have f3 := (hbf.cell (p := ⟨gb, 1, none⟩) (by simp only []; omega)).trans d1
                            have hmc2 := spec_l07Member_c wr gb wr.heap.size wr.heap.size A k2 cap ys D hd f3 hl hn hr (hx2.up hbf) (some ⟨g, 0, none⟩) k4 k3 (flipped D cur) hfl3 (by omega) (sl_of_own hof) HIN.out
                            clear hfe
                            cases hmm : memberB D (flipped D cur)
                            · rw [hmm] at hmc2
                              have HMC2 := Lib.hid hmc2
                              have HMM := Lib.hid hmm
                              clear hmm hmc2
                              go_wp2_with (go_at_call 27; refine HMC2.out.mono ?_; rintro e w' ⟨rfl, rfl⟩)
                              go_roundw
                              case rel => exact ⟨k + 1, flipped D cur, by omega, by go_num, hfl3, .inr HMM.out, HN.out, hof, hbf⟩
                              case measure => simp [intOf]; omega
                            · rw [hmm] at hmc2
                              have HMC2 := Lib.hid hmc2
                              have HMM := Lib.hid hmm
                              clear hmm hmc2
                              obtain ⟨e1, e2, e3⟩ := fa_some (HANS.out.trans (HN.out.symm.trans (flipGo_in HMM.out)))
                              have E := Lib.hid (And.intro e1 (And.intro e2 e3))
                              clear e1 e2 e3
                              go_wp2_with (go_at_call 27; refine HMC2.out.mono ?_; rintro e w' ⟨rfl, rfl⟩)
                              go_ret3
                              refine ⟨.slice (some ⟨g, 0, none⟩) k4 k3, ?_, ?_, by rw [HGB.out]; exact hB2.trans (hbf.mono (by omega))⟩
                              · rw [E.out.1, E.out.2.1]; rfl
                              · unfold Ow
                                rw [E.out.2.2, List.length_map]
                                show World.ownsRow _ _ _ _ _ (flipped D cur).length _
                                rw [hfl3]
                                exact own_base hof (by have := HGB.out; omega)
          · rw [hmem] at hmc
            have HMC := Lib.hid hmc
            have HMEM := Lib.hid hmem
            clear hmem hmc
            have hk0 : k = 0 := by
              rcases H0M.out with h | h
              · exact h
              · rw [HMEM.out] at h; cases h
            obtain ⟨e1, e2, e3⟩ := fa_some (HANS.out.trans (HGO.out.symm.trans (flipGo_in HMEM.out)))
            have E := Lib.hid (And.intro e1 (And.intro e2 e3))
            clear e1 e2 e3
            go_wp2_with (go_at_call 27; refine HMC.out.mono ?_; rintro e w' ⟨rfl, rfl⟩)
            go_ret3
            refine ⟨.slice (some ⟨g, 0, none⟩) n2 k3, ?_, ?_, by rw [HGB.out]; exact hB2.trans (hb.mono (by omega))⟩
            · rw [E.out.1, E.out.2.1, hk0]; rfl
            · unfold Ow
              rw [E.out.2.2, List.length_map]
              show World.ownsRow _ _ _ _ _ cur.length _
              rw [hcl]
              exact own_base ho (by have := HGB.out; omega)

end Go.Proofs.Ytepdjehbgkfjhaa
