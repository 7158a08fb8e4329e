/-
  FnExactNewDesk: the law's walk.
  Conditions: none.
-/
import Derived.Test.YtabblblnghljlaaND
import Derived.Test.YtabblblnghljlaaMP
import Derived.Test.YtabblblnghljlaaSD
namespace Go.Proofs.Ytabblblnghljlaa
open Go.RowKit

set_option maxRecDepth 100000 in
theorem markCode_c (w : World) (base : Nat) (A : Option Addr) (n cap : Nat) (xs : List Value) (hn : n ≤ 1099511627776) (k : Int) (h0 : 0 ≤ k) (hk : k ≤ 1099511627776) (ho : w.ownsRow base 2 1 (.slice A n cap) n xs) :
    Calls Try.prog 15 #[.agg #[.slice A n cap], .int .i64 k] w fun e w' => e = .returned (.int .i64 (k + n)) ∧ w'.ownsRow base 2 1 (.slice A n cap) n (marks (fun q => .int .i64 q) k n) ∧ w.grownBy w' (Value.slice A n cap).ownBlock := by
  have ho1 := own_below ho ((Below.refl w.heap.size w).alloc (Nat.le_refl _) (Obj.cells #[.slice A n cap] 25)) (Nat.le_refl _)
  go_enter Try.func15, Try.ntmps15
  go_wp2_with (go_at_call 29; refine (markInt64S_c _ base A n cap xs hn k h0 hk ho1).mono ?_; rintro e w' ⟨rfl, ho2, hg⟩)
  go_ret
  exact ⟨rfl, ho2, grown_alloc hg⟩

set_option maxRecDepth 100000 in
theorem heldCode_c (w : World) (A : Option Addr) (n cap : Nat) (hn : n ≤ 1099511627776) (k : Int) (h0 : 0 ≤ k) (hk : k ≤ 1099511627776) (hx : Sl w w.heap.size A (marks (fun q => .int .i64 q) k n)) :
    Calls Try.prog 18 #[.agg #[.slice A n cap], .int .i64 k] w fun e w' => e = .returned (.int .i64 (k + n)) ∧ Below w.heap.size w w' := by
  have hB := (Below.refl w.heap.size w).alloc (Nat.le_refl _) (Obj.cells #[.slice A n cap] 25)
  have hH := Lib.hid (heldInt64S_c (w.alloc (Obj.cells #[.slice A n cap] 25)) _ A n cap hn k h0 hk (hx.alloc (Nat.le_refl _) _))
  have hkn : 0 ≤ k + (n : Int) := by omega
  clear hx
  go_enter Try.func18, Try.ntmps18
  go_wp2_with (go_at_call 30; refine hH.out.mono ?_; rintro e w' ⟨rfl, m, rfl⟩)
  go_ret
  exact ⟨rfl, below_drewN hB _⟩

set_option maxRecDepth 100000 in
theorem heldParity_c (w : World) (m0 : Int) (A : Option Addr) (n cap : Nat) (hn : n ≤ 1099511627776) (k : Int) (h0 : 0 ≤ k) (hk : k ≤ 1099511627776) (hx : Sl w w.heap.size A (marks (fun q => .int .i64 q) k n)) :
    Calls Try.prog 19 #[.agg #[.int .i64 m0, .slice A n cap], .int .i64 k] w fun e w' => e = .returned (.int .i64 (k + n)) ∧ Below w.heap.size w w' := by
  have hB := (Below.refl w.heap.size w).alloc (Nat.le_refl _) (Obj.cells #[.int .i64 m0, .slice A n cap] 27)
  have hH := Lib.hid (heldInt64S_c (w.alloc (Obj.cells #[.int .i64 m0, .slice A n cap] 27)) _ A n cap hn k h0 hk (hx.alloc (Nat.le_refl _) _))
  have hkn : 0 ≤ k + (n : Int) := by omega
  clear hx
  go_enter Try.func19, Try.ntmps19
  go_wp2_with (go_at_call 30; refine hH.out.mono ?_; rintro e w' ⟨rfl, m, rfl⟩)
  go_ret
  exact ⟨rfl, below_drewN hB _⟩

theorem ne_own {w : World} {base : Nat} {e : TypeId} {size n : Nat} {v : Value} {xs : List Value} (h : w.ownsRow base e size v n xs) {b : Nat} (hb : w.heap.size ≤ b) : some b ≠ v.ownBlock := fun he => by
  have := (own_in h) b he.symm
  omega
def floatMarks (k : Int) (n : Nat) : List Value := marks (fun q => .float .f32 (floatOfInt .f32 q)) k n
def intMarks (k : Int) (n : Nat) : List Value := marks (fun q => .int .i64 q) k n

set_option maxRecDepth 100000 in
set_option maxHeartbeats 1000000 in
theorem markDesk_c (w : World) (base : Nat) (A0 A1 A2 : Option Addr) (n0 n1 n2 k0 k1 k2 : Nat) (m : Int) (b : ByteArray) (xs0 xs1 xs2 : List Value) (hn0 : n0 ≤ 1048576) (hn1 : n1 ≤ 1048576) (hn2 : n2 ≤ 1048576) (k : Int) (h0 : 0 ≤ k) (hk : k ≤ 1048576)
    (ho0 : w.ownsRow base 34 1 (.slice A0 n0 k0) n0 xs0) (ho1 : w.ownsRow base 2 1 (.slice A1 n1 k1) n1 xs1) (ho2 : w.ownsRow base 2 1 (.slice A2 n2 k2) n2 xs2) (h01 : Ap (.slice A0 n0 k0) (.slice A1 n1 k1)) (h02 : Ap (.slice A0 n0 k0) (.slice A2 n2 k2)) (h12 : Ap (.slice A1 n1 k1) (.slice A2 n2 k2)) :
    Calls Try.prog 7 #[.agg #[.slice A0 n0 k0, .slice A1 n1 k1, .int .i64 m, .slice A2 n2 k2, .string b], .int .i64 k] w fun e w' => e = .returned (.int .i64 (k + n0 + n1 + n2)) ∧ w'.ownsRow base 34 1 (.slice A0 n0 k0) n0 (floatMarks k n0) ∧ w'.ownsRow base 2 1 (.slice A1 n1 k1) n1 (intMarks (k + n0) n1) ∧ w'.ownsRow base 2 1 (.slice A2 n2 k2) n2 (intMarks (k + n0 + n1) n2)
      ∧ ∃ wa wb, w.grownBy wa (Value.slice A0 n0 k0).ownBlock ∧ wa.grownBy wb (Value.slice A1 n1 k1).ownBlock ∧ wb.grownBy w' (Value.slice A2 n2 k2).ownBlock := by
  obtain ⟨w1, e1⟩ : ∃ q : World, q = w.alloc (.cells #[.slice A0 n0 k0, .slice A1 n1 k1, .int .i64 m, .slice A2 n2 k2, .string b] 29) := ⟨_, rfl⟩
  have b1 : Below w.heap.size w w1 := by rw [e1]; exact (Below.refl _ _).alloc (Nat.le_refl _) _
  have hq : Obj w1 w.heap.size 29 #[.slice A0 n0 k0, .slice A1 n1 k1, .int .i64 m, .slice A2 n2 k2, .string b] := by rw [e1]; exact Obj.new _ _ _
  have x0 := ne_own ho0 (Nat.le_refl _)
  have x1 := ne_own ho1 (Nat.le_refl _)
  have hgr : ∀ (w' : World) (row : Option Nat), w1.grownBy w' row → w.grownBy w' row := by rw [e1]; exact fun _ _ h => grown_alloc h
  have ho0 := own_below ho0 b1 (Nat.le_refl _)
  have ho1 := own_below ho1 b1 (Nat.le_refl _)
  have ho2 := own_below ho2 b1 (Nat.le_refl _)
  have c0 := hq.five.1.1
  go_enter Try.func7, Try.ntmps7
  have HGR := Lib.hid hgr
  clear hgr
  go_wp2_with (rw [← e1]; clear e1)
  clear c0
  refine (markFloat32S_c w1 base A0 n0 k0 xs0 (by omega) k h0 (by omega) ho0).mono ?_
  rintro e w2 ⟨rfl, hm0, hg0⟩
  have hq := hq.kept hg0 x0
  have ho1 := ap_kept ho1 h01.symm hg0
  have ho2 := ap_kept ho2 h02.symm hg0
  have c1 := hq.five.1.2.1
  have HQ := Lib.hid hq
  have M0 := Lib.hid hm0
  have H1 := Lib.hid ho1
  have H2 := Lib.hid ho2
  clear hq hm0 ho1 ho2 ho0
  go_wp2_with fail
  clear c1
  refine (markCode_c w2 base A1 n1 k1 xs1 (by omega) (k + n0) (by omega) (by omega) H1.out).mono ?_
  rintro e w3 ⟨rfl, hm1, hg1⟩
  have hq := HQ.out.kept hg1 x1
  have hm0 := ap_kept M0.out h01 hg1
  have ho2 := ap_kept H2.out h12.symm hg1
  have c2 := hq.five.1.2.2.1
  have c3 := hq.five.1.2.2.2.1
  clear M0 H1 H2 HQ
  have M0 := Lib.hid hm0
  have M1 := Lib.hid hm1
  have H2 := Lib.hid ho2
  clear hm0 hm1 ho2 hq
  go_wp2_with fail
  clear c2 c3
  refine (markParity_c w3 base m A2 n2 k2 xs2 (by omega) (k + n0 + n1) (by omega) (by omega) H2.out).mono ?_
  rintro e w4 ⟨rfl, hm2, hg2⟩
  go_wp2
  go_ret
  exact ⟨rfl, ap_kept M0.out h02 hg2, ap_kept M1.out h12 hg2, hm2, _, _, HGR.out _ _ hg0, hg1, hg2⟩

set_option maxRecDepth 100000 in
set_option maxHeartbeats 1000000 in
theorem heldDesk_c (w : World) (A0 A1 A2 : Option Addr) (n0 n1 n2 k0 k1 k2 : Nat) (m : Int) (b : ByteArray) (hn0 : n0 ≤ 1048576) (hn1 : n1 ≤ 1048576) (hn2 : n2 ≤ 1048576) (k : Int) (h0 : 0 ≤ k) (hk : k ≤ 1048576)
    (ho0 : Sl w w.heap.size A0 (floatMarks k n0)) (ho1 : Sl w w.heap.size A1 (intMarks (k + n0) n1)) (ho2 : Sl w w.heap.size A2 (intMarks (k + n0 + n1) n2)) :
    Calls Try.prog 8 #[.agg #[.slice A0 n0 k0, .slice A1 n1 k1, .int .i64 m, .slice A2 n2 k2, .string b], .int .i64 k] w fun e w' => e = .returned (.int .i64 (k + n0 + n1 + n2)) ∧ Below w.heap.size w w' := by
  obtain ⟨w1, e1⟩ : ∃ q : World, q = w.alloc (.cells #[.slice A0 n0 k0, .slice A1 n1 k1, .int .i64 m, .slice A2 n2 k2, .string b] 29) := ⟨_, rfl⟩
  have B1 : Below w.heap.size w w1 := by rw [e1]; exact (Below.refl _ _).alloc (Nat.le_refl _) _
  have hq : Obj w1 w.heap.size 29 #[.slice A0 n0 k0, .slice A1 n1 k1, .int .i64 m, .slice A2 n2 k2, .string b] := by rw [e1]; exact Obj.new _ _ _
  have z1 : w1.heap.size = w.heap.size + 1 := by rw [e1]; simp
  have ho0 := (ho0.below B1).more B1.size
  have ho1 := (ho1.below B1).more B1.size
  have ho2 := (ho2.below B1).more B1.size
  have c0 := hq.five.1.1
  have g0 : ¬ (k + n0 < 0) := by omega
  have g1 : ¬ (k + n0 + n1 < 0) := by omega
  have g2 : ¬ (k + n0 + n1 + n2 < 0) := by omega
  have HH0 := Lib.hid (heldFloat32S_c w1 _ A0 n0 k0 (by omega) k h0 (by omega) ho0)
  have H1 := Lib.hid ho1
  have H2 := Lib.hid ho2
  clear ho0 ho1 ho2
  go_enter Try.func8, Try.ntmps8
  go_wp2_with (rw [← e1]; clear e1)
  clear c0
  refine HH0.out.mono ?_
  rintro e w2 ⟨rfl, q, rfl⟩
  obtain ⟨w2, e2⟩ : ∃ w2, w2 = w1.drewN q := ⟨_, rfl⟩
  have b2 : Below w1.heap.size w1 w2 := by rw [e2]; exact below_drewN (Below.refl _ _) _
  rw [← e2]
  clear e2 HH0
  have hq := hq.below b2 (by omega)
  have h1 := (H1.out.below b2).more b2.size
  have h2 := (H2.out.below b2).more b2.size
  have B2 := B1.trans (b2.mono B1.size)
  have c1 := hq.five.1.2.1
  clear H1 H2
  have H1 := Lib.hid h1
  have H2 := Lib.hid h2
  have z2 := b2.size
  clear h1 h2
  go_wp2_with fail
  clear c1
  refine (heldCode_c w2 A1 n1 k1 (by omega) (k + n0) (by omega) (by omega) H1.out).mono ?_
  rintro e w3 ⟨rfl, b3⟩
  have hq := hq.below b3 (by omega)
  have h2 := (H2.out.below b3).more b3.size
  have B3 := B2.trans (b3.mono B2.size)
  have c2 := hq.five.1.2.2.1
  have c3 := hq.five.1.2.2.2.1
  clear H2
  have H2 := Lib.hid h2
  clear h2
  go_wp2_with fail
  clear c2 c3
  refine (heldParity_c w3 m A2 n2 k2 (by omega) (k + n0 + n1) (by omega) (by omega) H2.out).mono ?_
  rintro e w4 ⟨rfl, b4⟩
  go_wp2
  go_ret
  exact ⟨rfl, B3.trans (b4.mono B3.size)⟩

/-- the three rows of a desk -/
def Row3 (w : World) (base : Nat) (A0 A1 A2 : Option Addr) (k0 k1 k2 : Nat) (l0 l1 l2 : List Value) : Prop := w.ownsRow base 34 1 (.slice A0 3 k0) 3 l0 ∧ w.ownsRow base 2 1 (.slice A1 3 k1) 3 l1 ∧ w.ownsRow base 2 1 (.slice A2 4 k2) 4 l2
def fV : List Value := rowF.map (Value.float .f32)
def lV : List Value := lonL.map (Value.int .i64)
def hV : List Value := hamL.map (Value.int .i64)
theorem Row3.below {w w' : World} {base : Nat} {A0 A1 A2 : Option Addr} {k0 k1 k2 : Nat} {l0 l1 l2 : List Value} (h : Row3 w base A0 A1 A2 k0 k1 k2 l0 l1 l2) (hb : Below w.heap.size w w') : Row3 w' base A0 A1 A2 k0 k1 k2 l0 l1 l2 :=
  ⟨own_below h.1 hb (Nat.le_refl _), own_below h.2.1 hb (Nat.le_refl _), own_below h.2.2 hb (Nat.le_refl _)⟩
theorem DeskAt.opn {w : World} {base : Nat} {v0 v1 v2 : Value} (h : DeskAt base w v0 v1 v2) : ∃ A0 A1 A2 k0 k1 k2, v0 = .slice A0 3 k0 ∧ v1 = .slice A1 3 k1 ∧ v2 = .slice A2 4 k2 ∧ Row3 w base A0 A1 A2 k0 k1 k2 fV lV hV ∧ Ap (.slice A0 3 k0) (.slice A1 3 k1) ∧ Ap (.slice A0 3 k0) (.slice A2 4 k2) ∧ Ap (.slice A1 3 k1) (.slice A2 4 k2) := by
  obtain ⟨h0, h1, h2, p1, p2, p3⟩ := h
  obtain ⟨A0, k0, rfl, q0⟩ := h0.opn
  obtain ⟨A1, k1, rfl, q1⟩ := h1.opn
  obtain ⟨A2, k2, rfl, q2⟩ := h2.opn
  exact ⟨A0, A1, A2, k0, k1, k2, rfl, rfl, rfl, ⟨q0, q1, q2⟩, p1, p2, p3⟩
theorem Row3.apart {w w' : World} {base : Nat} {A0 A1 A2 : Option Addr} {k0 k1 k2 : Nat} {l0 l1 l2 : List Value} {u : Value} (h : Row3 w base A0 A1 A2 k0 k1 k2 l0 l1 l2) (hg : w.grownBy w' u.ownBlock) {b c d : Nat} (h0 : In (.slice A0 3 k0) base b) (h1 : In (.slice A1 3 k1) base b) (h2 : In (.slice A2 4 k2) base b) (hu : In u c d) (hs : b ≤ c ∨ d ≤ base) : Row3 w' base A0 A1 A2 k0 k1 k2 l0 l1 l2 :=
  ⟨own_apart h.1 hg h0 hu hs, own_apart h.2.1 hg h1 hu hs, own_apart h.2.2 hg h2 hu hs⟩
theorem Obj.apart {w w' : World} {B : Nat} {t : TypeId} {cs : Array Value} {u : Value} (h : Obj w B t cs) (hg : w.grownBy w' u.ownBlock) {c d : Nat} (hu : In u c d) (hs : B < c ∨ d ≤ B) : Obj w' B t cs :=
  h.kept hg (fun he => by have := hu B he.symm; omega)
theorem eqD (w : World) {A0 A1 A2 B0 B1 B2 : Option Addr} {k0 k1 k2 c0 c1 c2 b1 b2 : Nat} (h : Row3 w b1 A0 A1 A2 k0 k1 k2 fV lV hV) (g : Row3 w b2 B0 B1 B2 c0 c1 c2 fV lV hV) :
    Calls Try.prog 6 #[.agg #[.slice A0 3 k0, .slice A1 3 k1, .int .i64 7, .slice A2 4 k2, .string bitS], .agg #[.slice B0 3 c0, .slice B1 3 c1, .int .i64 7, .slice B2 4 c2, .string bitS]] w fun e w' => e = .returned (.bool true) ∧ Below w.heap.size w w' :=
  eqDesk_t w A0 B0 3 k0 c0 rowF rfl (by decide) (sl_of_own h.1) (sl_of_own g.1) A1 B1 3 k1 c1 lonL rfl (by decide) (sl_of_own h.2.1) (sl_of_own g.2.1) 7 A2 B2 4 k2 c2 hamL rfl (by decide) (sl_of_own h.2.2) (sl_of_own g.2.2) bitS
def Dv (A0 A1 A2 : Option Addr) (k0 k1 k2 : Nat) : Value := .agg #[.slice A0 3 k0, .slice A1 3 k1, .int .i64 7, .slice A2 4 k2, .string bitS]
def Dc (A0 A1 A2 : Option Addr) (k0 k1 k2 : Nat) : Array Value := #[.slice A0 3 k0, .slice A1 3 k1, .int .i64 7, .slice A2 4 k2, .string bitS]

set_option maxRecDepth 100000 in
set_option maxHeartbeats 4000000 in
theorem law_NewDesk (w : World) : Calls Try.prog 3 #[] w fun e w' => e = .returned (.bool true) ∧ Below w.heap.size w w' := by

  obtain ⟨bs, hbs⟩ : ∃ bs, bitS = bs := ⟨_, rfl⟩
  have HBS := Lib.hid hbs
  go_enter Try.func3, Try.ntmps3
  go_wp2_with fail
  refine (spec_NewDesk_c w).mono ?_
  rintro e w1 ⟨v0, v1, v2, rfl, hd1, hb1⟩
  obtain ⟨A0, A1, A2, k0, k1, k2, rfl, rfl, rfl, hr, -, -, -⟩ := hd1.opn
  clear hd1
  rw [hbs]
  obtain ⟨w2, e2⟩ : ∃ q : World, q = w1.alloc (.cells #[.slice A0 3 k0, .slice A1 3 k1, .int .i64 7, .slice A2 4 k2, .string bs] 29) := ⟨_, rfl⟩
  have b2 : Below w1.heap.size w1 w2 := by rw [e2]; exact (Below.refl _ _).alloc (Nat.le_refl _) _
  have hx : Obj w2 w1.heap.size 29 #[.slice A0 3 k0, .slice A1 3 k1, .int .i64 7, .slice A2 4 k2, .string bs] := by rw [e2]; exact Obj.new _ _ _
  have z1 := hb1.size
  have z2 : w2.heap.size = w1.heap.size + 1 := by rw [e2]; simp
  have i0 := own_in hr.1
  have i1 := own_in hr.2.1
  have i2 := own_in hr.2.2
  have hr := hr.below b2
  have B2 := hb1.trans (b2.mono z1)
  have X := Lib.hid hx
  have R := Lib.hid hr
  have I := Lib.hid (And.intro i0 (And.intro i1 i2))
  clear hx hr i0 i1 i2 hb1 b2
  go_wp2_with (rw [← e2]; clear e2)
  refine (impl_NewDesk_c w2).mono ?_
  rintro e w3 ⟨v0, v1, v2, rfl, hd3, hb3⟩
  obtain ⟨D0, D1, D2, c0, c1, c2, rfl, rfl, rfl, hs, p1, p2, p3⟩ := hd3.opn
  clear hd3
  rw [hbs]
  obtain ⟨w4, e4⟩ : ∃ q : World, q = w3.alloc (.cells #[.slice D0 3 c0, .slice D1 3 c1, .int .i64 7, .slice D2 4 c2, .string bs] 29) := ⟨_, rfl⟩
  have b4 : Below w3.heap.size w3 w4 := by rw [e4]; exact (Below.refl _ _).alloc (Nat.le_refl _) _
  have hy : Obj w4 w3.heap.size 29 #[.slice D0 3 c0, .slice D1 3 c1, .int .i64 7, .slice D2 4 c2, .string bs] := by rw [e4]; exact Obj.new _ _ _
  have z3 := hb3.size
  have z4 : w4.heap.size = w3.heap.size + 1 := by rw [e4]; simp
  have j0 := own_in hs.1
  have j1 := own_in hs.2.1
  have j2 := own_in hs.2.2
  have hs := hs.below b4
  have hr := (R.out.below hb3).below b4
  have hx := (X.out.below hb3 (by omega)).below b4 (by omega)
  have B4 := (B2.trans (hb3.mono B2.size)).trans (b4.mono (by omega))
  clear R X B2 hb3 b4
  have J := Lib.hid (And.intro j0 (And.intro j1 j2))
  clear j0 j1 j2
  obtain ⟨⟨xa0, xa1, xa2, xa3, xa4⟩, -⟩ := hx.five
  obtain ⟨⟨ya0, ya1, ya2, ya3, ya4⟩, -⟩ := hy.five
  have X := Lib.hid hx
  have Y := Lib.hid hy
  have HE := Lib.hid (eqD w4 hs hr)
  rw [hbs] at HE
  have R := Lib.hid hr
  have SS := Lib.hid hs
  have PP := Lib.hid (And.intro p1 (And.intro p2 p3))
  clear hx hy hr hs p1 p2 p3
  go_wp2_with (rw [← e4]; clear e4)
  refine HE.out.mono ?_
  rintro e w5 ⟨rfl, b5⟩
  have z5 := b5.size
  have hx := X.out.below b5 (by omega)
  have hy := Y.out.below b5 (by omega)
  have hr := R.out.below b5
  have hs := SS.out.below b5
  have B5 := B4.trans (b5.mono B4.size)
  clear X Y R SS HE b5 B4 xa0 xa1 xa2 xa3 xa4 ya0 ya1 ya2 ya3 ya4
  obtain ⟨⟨ya0, ya1, ya2, ya3, ya4⟩, -⟩ := hy.five
  have HM := Lib.hid (markDesk_c w5 w2.heap.size D0 D1 D2 3 3 4 c0 c1 c2 7 bs fV lV hV (by decide) (by decide) (by decide) 1 (by decide) (by decide) hs.1 hs.2.1 hs.2.2 PP.out.1 PP.out.2.1 PP.out.2.2)
  have X := Lib.hid hx
  have Y := Lib.hid hy
  have R := Lib.hid hr
  clear hx hy hr hs
  go_wp2_with fail
  refine HM.out.mono ?_
  rintro e w6 ⟨rfl, m0, m1, m2, wa, wb, ga, gb, gc⟩
  obtain ⟨i0, i1, i2⟩ := I.out
  obtain ⟨j0, j1, j2⟩ := J.out
  have za := ga.size
  have zb := gb.size
  have zc := gc.size
  have hx := ((X.out.apart ga j0 (by omega)).apart gb j1 (by omega)).apart gc j2 (by omega)
  have hy := ((Y.out.apart ga j0 (by omega)).apart gb j1 (by omega)).apart gc j2 (by omega)
  have hr := ((R.out.apart ga i0 i1 i2 j0 (by omega)).apart gb i0 i1 i2 j1 (by omega)).apart gc i0 i1 i2 j2 (by omega)
  have B6 := below_marked (below_marked (below_marked B5 ga j0 (by omega) (by omega)) gb j1 (by omega) (by omega)) gc j2 (by omega) (by omega)
  clear ga gb gc i0 i1 i2 j0 j1 j2 X Y R HM B5 ya0 ya1 ya2 ya3 ya4
  obtain ⟨⟨ya0, ya1, ya2, ya3, ya4⟩, -⟩ := hy.five
  have X := Lib.hid hx
  have Y := Lib.hid hy
  have R := Lib.hid hr
  have HH := Lib.hid (heldDesk_c w6 D0 D1 D2 3 3 4 c0 c1 c2 7 bs (by decide) (by decide) (by decide) 1 (by decide) (by decide) (sl_of_own m0) (sl_of_own m1) (sl_of_own m2))
  have M := Lib.hid (And.intro m0 (And.intro m1 m2))
  clear hx hy hr m0 m1 m2
  go_wp2_with fail
  refine HH.out.mono ?_
  rintro e w7 ⟨rfl, b7⟩
  have z7 := b7.size
  have hx := X.out.below b7 (by omega)
  have hy := Y.out.below b7 (by omega)
  have hr := R.out.below b7
  obtain ⟨m0, m1, m2⟩ := M.out
  have m0 := own_below m0 b7 (Nat.le_refl _)
  have m1 := own_below m1 b7 (Nat.le_refl _)
  have m2 := own_below m2 b7 (Nat.le_refl _)
  have B7 := B6.trans (b7.mono B6.size)
  clear X Y R HH M B6 b7 ya0 ya1 ya2 ya3 ya4
  have X := Lib.hid hx
  have Y := Lib.hid hy
  have R := Lib.hid hr
  have M := Lib.hid (And.intro m0 (And.intro m1 m2))
  clear hx hy hr m0 m1 m2
  go_wp2_with fail
  refine (impl_NewDesk_c w7).mono ?_
  rintro e w8 ⟨v0, v1, v2, rfl, hd8, hb8⟩
  obtain ⟨E0, E1, E2, d0, d1, d2, rfl, rfl, rfl, hs, -, -, -⟩ := hd8.opn
  clear hd8
  rw [hbs]
  obtain ⟨w9, e9⟩ : ∃ q : World, q = w8.alloc (.cells #[.slice E0 3 d0, .slice E1 3 d1, .int .i64 7, .slice E2 4 d2, .string bs] 29) := ⟨_, rfl⟩
  have b9 : Below w8.heap.size w8 w9 := by rw [e9]; exact (Below.refl _ _).alloc (Nat.le_refl _) _
  have hu : Obj w9 w8.heap.size 29 #[.slice E0 3 d0, .slice E1 3 d1, .int .i64 7, .slice E2 4 d2, .string bs] := by rw [e9]; exact Obj.new _ _ _
  have z8 := hb8.size
  have z9 : w9.heap.size = w8.heap.size + 1 := by rw [e9]; simp
  have hs := hs.below b9
  have hr := (R.out.below hb8).below b9
  have hx := (X.out.below hb8 (by omega)).below b9 (by omega)
  have hy := (Y.out.below hb8 (by omega)).below b9 (by omega)
  obtain ⟨m0, m1, m2⟩ := M.out
  have m0 := own_below (own_below m0 hb8 (Nat.le_refl _)) b9 (Nat.le_refl _)
  have m1 := own_below (own_below m1 hb8 (Nat.le_refl _)) b9 (Nat.le_refl _)
  have m2 := own_below (own_below m2 hb8 (Nat.le_refl _)) b9 (Nat.le_refl _)
  have B9 := (B7.trans (hb8.mono B7.size)).trans (b9.mono (by omega))
  obtain ⟨⟨xa0, xa1, xa2, xa3, xa4⟩, -⟩ := hx.five
  obtain ⟨⟨ya0, ya1, ya2, ya3, ya4⟩, -⟩ := hu.five
  have HE := Lib.hid (eqD w9 hs hr)
  rw [hbs] at HE
  clear X Y R M B7 hb8 b9
  have Y := Lib.hid hy
  have M := Lib.hid (And.intro m0 (And.intro m1 m2))
  clear hx hy hu hr hs m0 m1 m2
  go_wp2_with (rw [← e9]; clear e9)
  refine HE.out.mono ?_
  rintro e w10 ⟨rfl, b10⟩
  have z10 := b10.size
  have hy := Y.out.below b10 (by omega)
  obtain ⟨m0, m1, m2⟩ := M.out
  have m0 := own_below m0 b10 (Nat.le_refl _)
  have m1 := own_below m1 b10 (Nat.le_refl _)
  have m2 := own_below m2 b10 (Nat.le_refl _)
  have B10 := B9.trans (b10.mono B9.size)
  clear HE xa0 xa1 xa2 xa3 xa4 ya0 ya1 ya2 ya3 ya4 B9 b10 Y M
  obtain ⟨⟨ya0, ya1, ya2, ya3, ya4⟩, -⟩ := hy.five
  have HH := Lib.hid (heldDesk_c w10 D0 D1 D2 3 3 4 c0 c1 c2 7 bs (by decide) (by decide) (by decide) 1 (by decide) (by decide) (sl_of_own m0) (sl_of_own m1) (sl_of_own m2))
  clear m0 m1 m2 hy
  go_wp2_with fail
  refine HH.out.mono ?_
  rintro e w11 ⟨rfl, b11⟩
  have B11 := B10.trans (b11.mono B10.size)
  clear HH
  go_wp2
  go_ret
  exact ⟨rfl, B11⟩

end Go.Proofs.Ytabblblnghljlaa
