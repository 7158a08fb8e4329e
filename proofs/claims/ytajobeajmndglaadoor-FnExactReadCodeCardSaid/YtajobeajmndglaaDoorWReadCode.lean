/-
  FnExactReadCode: the law's walk.
  Conditions: the tables and variables of the library lie there.
-/
import Derived.Test.YtajobeajmndglaaDoorDQ
import Derived.Test.YtajobeajmndglaaDoorSD
import Derived.Test.YtajobeajmndglaaDoorMP
namespace Go.Proofs.YtajobeajmndglaaDoor
open Go.RowKit


theorem grown_allocC {w w' : World} {o : Obj} {row : Option Nat} (h : (w.alloc o).grownBy w' row) : w.grownBy w' row := by
  have hb := (Below.refl w.heap.size w).alloc (Nat.le_refl _) o
  exact ⟨h.os.trans hb.os, h.tape.trans hb.tape, h.output.trans hb.output, Nat.le_trans hb.size h.size, fun i hi hne => (h.block i (Nat.lt_of_lt_of_le hi hb.size) hne).trans (hb.block i hi)⟩
set_option maxRecDepth 100000 in
theorem markCode_c (w : World) (base : Nat) (A : Option Addr) (n cap : Nat) (xs : List Value) (hn : n ≤ 1099511627776) (k : Int) (h0 : 0 ≤ k) (hk : k ≤ 1099511627776) (ho : w.ownsRow base 2 1 (.slice A n cap) n xs) :
    Calls Tryd.prog 8 #[.agg #[.slice A n cap], .int .i64 k] w fun e w' => e = .returned (.int .i64 (k + n)) ∧ w'.ownsRow base 2 1 (.slice A n cap) n (marks (fun q => .int .i64 q) k n) ∧ w.grownBy w' (Value.slice A n cap).ownBlock := by
  have ho1 := own_below ho ((Below.refl w.heap.size w).alloc (Nat.le_refl _) (Obj.cells #[.slice A n cap] 24)) (Nat.le_refl _)
  go_enter Tryd.func8, Tryd.ntmps8
  go_wp2_with (go_at_call 19; refine (markInt64S_c _ base A n cap xs hn k h0 hk ho1).mono ?_; rintro e w' ⟨rfl, ho2, hg⟩)
  go_ret
  exact ⟨rfl, ho2, grown_allocC hg⟩
set_option maxRecDepth 100000 in
theorem heldCode_c (w : World) (A : Option Addr) (n cap : Nat) (hn : n ≤ 1099511627776) (k : Int) (h0 : 0 ≤ k) (hk : k ≤ 1099511627776) (hx : Sl w w.heap.size A (marks (fun q => .int .i64 q) k n)) :
    Calls Tryd.prog 9 #[.agg #[.slice A n cap], .int .i64 k] w fun e w' => e = .returned (.int .i64 (k + n)) ∧ Below w.heap.size w w' := by
  have hB := (Below.refl w.heap.size w).alloc (Nat.le_refl _) (Obj.cells #[.slice A n cap] 24)
  have hH := Lib.hid (heldInt64S_c (w.alloc (Obj.cells #[.slice A n cap] 24)) _ A n cap hn k h0 hk (hx.alloc (Nat.le_refl _) _))
  have hkn : 0 ≤ k + (n : Int) := by omega
  clear hx
  go_enter Tryd.func9, Tryd.ntmps9
  go_wp2_with (go_at_call 20; refine hH.out.mono ?_; rintro e w' ⟨rfl, m, rfl⟩)
  go_ret
  exact ⟨rfl, below_drewN hB _⟩

theorem rc_len (s : ByteArray) : (rcZ s).1.length ≤ 64 := by
  unfold rcZ
  split
  · rename_i D h
    split
    · exact lstZ_len h
    · exact Nat.zero_le _
  · exact Nat.zero_le _

set_option maxRecDepth 100000 in
set_option maxHeartbeats 4000000 in
theorem law_ReadCode (w : World) (s : ByteArray) (hs : s.size ≤ maxLen) (ht : Tab w) (he : Errs w) (hm : maxLenOk w) :
    Calls Tryd.prog 3 #[.string s] w fun e w' => e = .returned (.bool true) ∧ Below w.heap.size w w' := by
  unfold maxLen at hs
  rcases Nat.lt_or_ge 1048576 s.size with h1 | h1
  · go_enter Tryd.func3, Tryd.ntmps3
    go_wp2
    go_ret
    exact ⟨rfl, Below.refl _ _⟩
  have hq : ∀ b : Bool, (b == b) = true := fun b => by simp
  have hml := hm.lt
  have HIMPL := Lib.hid (fun W (hW : Below w.heap.size w W) => impl_ReadCode_c W s h1 (hm.below hW hml) (ht.below hW (Nat.le_refl _)) (he.below hW (Nat.le_refl _)))
  have HSPEC := Lib.hid (spec_ReadCode_c w s h1)
  clear ht he hm
  have hln := rc_len s
  unfold RcPost at HSPEC HIMPL
  obtain ⟨⟨xs, b⟩, hd⟩ : ∃ d, rcZ s = d := ⟨_, rfl⟩
  rw [hd] at HSPEC HIMPL hln
  simp only at HSPEC HIMPL hln
  clear hd
  obtain ⟨n, hn⟩ : ∃ n, xs.length = n := ⟨_, rfl⟩
  rw [hn] at hln
  go_enter Tryd.func3, Tryd.ntmps3
  go_wp2_with fail
  refine HSPEC.out.mono ?_
  rintro e w1 ⟨v1, rfl, ho1, hb1⟩
  obtain ⟨S1, k1, rfl, hp1⟩ := ho1.opn
  rw [hn] at hp1 ⊢
  clear ho1 HSPEC
  have z1 := hb1.size
  have HI1 := Lib.hid (own_in hp1)
  go_wp2_with fail
  obtain ⟨w2, e2⟩ : ∃ q : World, q = w1.alloc (.cells #[.slice S1 n k1] 24) := ⟨_, rfl⟩
  have c2 : w2.cell? ⟨w1.heap.size, 0, none⟩ = some (.slice S1 n k1) := by rw [e2]; (first | (simp; done) | (simp (disch := (first | (simp; done) | (simp; omega))) [World.cell?_alloc_at]; done) | (simp (disch := (first | (simp; done) | (simp; omega))) [World.cell?_alloc_past]; done) | (simp (disch := (first | (simp; done) | (simp; omega))) [World.cell?_alloc_at, World.cell?_alloc_past]; done) | (simp (disch := (first | (simp; done) | (simp; omega))) [World.frozen?_alloc_at]; done) | (simp (disch := (first | (simp; done) | (simp; omega))) [World.frozen?_alloc_past]; done) | (simp (disch := (first | (simp; done) | (simp; omega))) [World.frozen?_alloc_at, World.frozen?_alloc_past]; done))
  have b2 : Below w1.heap.size w1 w2 := by rw [e2]; exact (Below.refl _ _).alloc (Nat.le_refl _) _
  have z2 : w2.heap.size = w1.heap.size + 1 := by rw [e2]; simp
  rw [← e2]
  clear e2
  have B2 := hb1.trans (b2.mono z1)
  have HP1 := Lib.hid (own_below hp1 b2 (Nat.le_refl _))
  clear hp1
  refine (HIMPL.out w2 B2).mono ?_
  rintro e w3 ⟨v3, rfl, ho3, hb3⟩
  obtain ⟨S3, k3, rfl, hp3⟩ := ho3.opn
  rw [hn] at hp3 ⊢
  clear ho3
  have z3 := hb3.size
  have HI3 := Lib.hid (own_in hp3)
  have c2 := (hb3.cell (p := ⟨w1.heap.size, 0, none⟩) (by simp only []; omega)).trans c2
  have B3 := B2.trans (hb3.mono (by omega))
  have HP1 := Lib.hid (own_below HP1.out hb3 (Nat.le_refl _))
  have lt3 : w1.heap.size < w3.heap.size := by omega
  go_wp2_with fail
  obtain ⟨w4, e4⟩ : ∃ q : World, q = w3.alloc (.cells #[.slice S3 n k3] 24) := ⟨_, rfl⟩
  have c4 : w4.cell? ⟨w3.heap.size, 0, none⟩ = some (.slice S3 n k3) := by rw [e4]; (first | (simp; done) | (simp (disch := (first | (simp; done) | (simp; omega))) [World.cell?_alloc_at]; done) | (simp (disch := (first | (simp; done) | (simp; omega))) [World.cell?_alloc_past]; done) | (simp (disch := (first | (simp; done) | (simp; omega))) [World.cell?_alloc_at, World.cell?_alloc_past]; done) | (simp (disch := (first | (simp; done) | (simp; omega))) [World.frozen?_alloc_at]; done) | (simp (disch := (first | (simp; done) | (simp; omega))) [World.frozen?_alloc_past]; done) | (simp (disch := (first | (simp; done) | (simp; omega))) [World.frozen?_alloc_at, World.frozen?_alloc_past]; done))
  have b4 : Below w3.heap.size w3 w4 := by rw [e4]; exact (Below.refl _ _).alloc (Nat.le_refl _) _
  have z4 : w4.heap.size = w3.heap.size + 1 := by rw [e4]; simp
  rw [← e4]
  clear e4
  have c2 := (b4.cell (p := ⟨w1.heap.size, 0, none⟩) (by simp only []; omega)).trans c2
  have B4 := B3.trans (b4.mono (by omega))
  have HP1 := Lib.hid (own_below HP1.out b4 (Nat.le_refl _))
  have HP3 := Lib.hid (own_below hp3 b4 (Nat.le_refl _))
  clear hp3
  refine (eqCode_t w4 S3 S1 n k3 k1 xs hn (Nat.le_trans hln (by decide)) (sl_of_own HP3.out) (sl_of_own HP1.out)).mono ?_
  rintro e w5 ⟨rfl, hb5⟩
  have z5 := hb5.size
  have c2 := (hb5.cell (p := ⟨w1.heap.size, 0, none⟩) (by simp only []; omega)).trans c2
  have c4 := (hb5.cell (p := ⟨w3.heap.size, 0, none⟩) (by simp only []; omega)).trans c4
  have HP1 := Lib.hid (own_below HP1.out hb5 (Nat.le_refl _))
  have HP3 := Lib.hid (own_below HP3.out hb5 (Nat.le_refl _))
  have B5 := B4.trans (hb5.mono (by omega))
  go_wp2_with fail
  refine (markCode_c w5 w2.heap.size S3 n k3 _ (Nat.le_trans hln (by decide)) 1 (by decide) (by decide) HP3.out).mono ?_
  rintro e w6 ⟨rfl, hm3, hg6⟩
  have z6 := hg6.size
  have c2 := (cell_apart hg6 HI3.out (p := ⟨w1.heap.size, 0, none⟩) (by simp only []; omega) (.inl (by simp only []; omega))).trans c2
  have c4 := (cell_apart hg6 HI3.out (p := ⟨w3.heap.size, 0, none⟩) (by simp only []; omega) (.inr (by simp only []; omega))).trans c4
  have HP1 := Lib.hid (own_apart HP1.out hg6 HI1.out HI3.out (by omega))
  have HP3 := Lib.hid hm3
  have B6 : Below w.heap.size w w6 := below_marked B5 hg6 HI3.out (by omega) (by omega)
  have hk6 : (0 : Int) ≤ 1 + (n : Nat) := by omega
  clear hm3
  go_wp2_with fail
  refine (heldCode_c w6 S3 n k3 (Nat.le_trans hln (by decide)) 1 (by decide) (by decide) (sl_of_own HP3.out)).mono ?_
  rintro e w7 ⟨rfl, hb7⟩
  have z7 := hb7.size
  have c2 := (hb7.cell (p := ⟨w1.heap.size, 0, none⟩) (by simp only []; omega)).trans c2
  have c4 := (hb7.cell (p := ⟨w3.heap.size, 0, none⟩) (by simp only []; omega)).trans c4
  have HP1 := Lib.hid (own_below HP1.out hb7 (Nat.le_refl _))
  have HP3 := Lib.hid (own_below HP3.out hb7 (Nat.le_refl _))
  have B7 := B6.trans (hb7.mono (by omega))
  go_wp2_with fail
  refine (HIMPL.out w7 B7).mono ?_
  rintro e w8 ⟨v5, rfl, ho5, hb8⟩
  obtain ⟨S5, k5, rfl, hp5⟩ := ho5.opn
  rw [hn] at hp5 ⊢
  clear ho5
  have z8 := hb8.size
  have c2 := (hb8.cell (p := ⟨w1.heap.size, 0, none⟩) (by simp only []; omega)).trans c2
  have c4 := (hb8.cell (p := ⟨w3.heap.size, 0, none⟩) (by simp only []; omega)).trans c4
  have HP1 := Lib.hid (own_below HP1.out hb8 (Nat.le_refl _))
  have HP3 := Lib.hid (own_below HP3.out hb8 (Nat.le_refl _))
  have B8 := B7.trans (hb8.mono (by omega))
  have lt8 : w1.heap.size < w8.heap.size := by omega
  go_wp2_with fail
  obtain ⟨w9, e9⟩ : ∃ q : World, q = w8.alloc (.cells #[.slice S5 n k5] 24) := ⟨_, rfl⟩
  have b9 : Below w8.heap.size w8 w9 := by rw [e9]; exact (Below.refl _ _).alloc (Nat.le_refl _) _
  rw [← e9]
  clear e9
  have z9 := b9.size
  have c4 := (b9.cell (p := ⟨w3.heap.size, 0, none⟩) (by simp only []; omega)).trans c4
  have HP1 := Lib.hid (own_below HP1.out b9 (Nat.le_refl _))
  have HP3 := Lib.hid (own_below HP3.out b9 (Nat.le_refl _))
  have HP5 := Lib.hid (own_below hp5 b9 (Nat.le_refl _))
  have B9 := B8.trans (b9.mono (by omega))
  clear hp5 c2
  refine (eqCode_t w9 S5 S1 n k5 k1 xs hn (Nat.le_trans hln (by decide)) (sl_of_own HP5.out) (sl_of_own HP1.out)).mono ?_
  rintro e w10 ⟨rfl, hb10⟩
  have z10 := hb10.size
  have c4 := (hb10.cell (p := ⟨w3.heap.size, 0, none⟩) (by simp only []; omega)).trans c4
  have HP3 := Lib.hid (own_below HP3.out hb10 (Nat.le_refl _))
  have B10 := B9.trans (hb10.mono (by omega))
  go_wp2_with fail
  refine (heldCode_c w10 S3 n k3 (Nat.le_trans hln (by decide)) 1 (by decide) (by decide) (sl_of_own HP3.out)).mono ?_
  rintro e w11 ⟨rfl, hb11⟩
  have B11 := B10.trans (hb11.mono (by omega))
  go_wp2
  go_ret
  exact ⟨rfl, B11⟩

end Go.Proofs.YtajobeajmndglaaDoor
