/-
  FnExactReadParity: the law's walk.
  Conditions: the tables and variables of the library lie there.
-/
import Derived.Test.YtajobeajmndglaaDoorRQ
import Derived.Test.YtajobeajmndglaaDoorSD
import Derived.Test.YtajobeajmndglaaDoorMP
namespace Go.Proofs.YtajobeajmndglaaDoor
open Go.RowKit


set_option maxRecDepth 100000 in
theorem spec_ReadParity_c (w : World) (s : ByteArray) (hs : s.size ≤ 1048576) : Calls Tryd.prog 10 #[.string s] w (RpPost w s) := by
  obtain ⟨w0, e0⟩ : ∃ q : World, q = w.alloc (.cells #[.int .i64 0, .slice none 0 0] 31) := ⟨_, rfl⟩
  have hb0 : Below w.heap.size w w0 := by rw [e0]; exact (Below.refl _ _).alloc (Nat.le_refl _) _
  have hz0 : w0.heap.size = w.heap.size + 1 := by rw [e0]; simp
  have c0 : w0.cell? ⟨w.heap.size, 0, none⟩ = some (.int .i64 0) := by rw [e0]; (first | (simp; done) | (simp (disch := (first | (simp; done) | (simp; omega))) [World.cell?_alloc_at]; done) | (simp (disch := (first | (simp; done) | (simp; omega))) [World.cell?_alloc_past]; done) | (simp (disch := (first | (simp; done) | (simp; omega))) [World.cell?_alloc_at, World.cell?_alloc_past]; done) | (simp (disch := (first | (simp; done) | (simp; omega))) [World.frozen?_alloc_at]; done) | (simp (disch := (first | (simp; done) | (simp; omega))) [World.frozen?_alloc_past]; done) | (simp (disch := (first | (simp; done) | (simp; omega))) [World.frozen?_alloc_at, World.frozen?_alloc_past]; done))
  have c1 : w0.cell? ⟨w.heap.size, 1, none⟩ = some (.slice none 0 0) := by rw [e0]; (first | (simp; done) | (simp (disch := (first | (simp; done) | (simp; omega))) [World.cell?_alloc_at]; done) | (simp (disch := (first | (simp; done) | (simp; omega))) [World.cell?_alloc_past]; done) | (simp (disch := (first | (simp; done) | (simp; omega))) [World.cell?_alloc_at, World.cell?_alloc_past]; done) | (simp (disch := (first | (simp; done) | (simp; omega))) [World.frozen?_alloc_at]; done) | (simp (disch := (first | (simp; done) | (simp; omega))) [World.frozen?_alloc_past]; done) | (simp (disch := (first | (simp; done) | (simp; omega))) [World.frozen?_alloc_at, World.frozen?_alloc_past]; done))
  have f0 : w0.frozen? ⟨w.heap.size, 0, none⟩ = false := by rw [e0]; (first | (simp; done) | (simp (disch := (first | (simp; done) | (simp; omega))) [World.cell?_alloc_at]; done) | (simp (disch := (first | (simp; done) | (simp; omega))) [World.cell?_alloc_past]; done) | (simp (disch := (first | (simp; done) | (simp; omega))) [World.cell?_alloc_at, World.cell?_alloc_past]; done) | (simp (disch := (first | (simp; done) | (simp; omega))) [World.frozen?_alloc_at]; done) | (simp (disch := (first | (simp; done) | (simp; omega))) [World.frozen?_alloc_past]; done) | (simp (disch := (first | (simp; done) | (simp; omega))) [World.frozen?_alloc_at, World.frozen?_alloc_past]; done))
  have f1 : w0.frozen? ⟨w.heap.size, 1, none⟩ = false := by rw [e0]; (first | (simp; done) | (simp (disch := (first | (simp; done) | (simp; omega))) [World.cell?_alloc_at]; done) | (simp (disch := (first | (simp; done) | (simp; omega))) [World.cell?_alloc_past]; done) | (simp (disch := (first | (simp; done) | (simp; omega))) [World.cell?_alloc_at, World.cell?_alloc_past]; done) | (simp (disch := (first | (simp; done) | (simp; omega))) [World.frozen?_alloc_at]; done) | (simp (disch := (first | (simp; done) | (simp; omega))) [World.frozen?_alloc_past]; done) | (simp (disch := (first | (simp; done) | (simp; omega))) [World.frozen?_alloc_at, World.frozen?_alloc_past]; done))
  have HR := Lib.hid (spec_l08ReadParity_c w0 s hs)
  clear hs
  unfold RpPost at HR ⊢
  obtain ⟨⟨m, D, b⟩, hd⟩ : ∃ d, rpT s.data.toList = d := ⟨_, rfl⟩
  rw [hd] at HR ⊢
  simp only at HR ⊢
  clear hd
  go_enter Tryd.func10, Tryd.ntmps10
  go_wp2_with fail
  rw [← e0]
  clear e0
  refine HR.out.mono ?_
  rintro e w1 ⟨v, rfl, ho, hb1⟩
  obtain ⟨A, cap, rfl, hp⟩ := ho.opn
  have hz1 := hb1.size
  have c0 := (hb1.cell (p := ⟨w.heap.size, 0, none⟩) (by simp only []; omega)).trans c0
  have c1 := (hb1.cell (p := ⟨w.heap.size, 1, none⟩) (by simp only []; omega)).trans c1
  have f0 := (hb1.frozen (p := ⟨w.heap.size, 0, none⟩) (by simp only []; omega)).trans f0
  have f1 := (hb1.frozen (p := ⟨w.heap.size, 1, none⟩) (by simp only []; omega)).trans f1
  have hB1 := hb0.trans (hb1.mono hb0.size)
  obtain ⟨n, hn⟩ : ∃ n, D.length = n := ⟨_, rfl⟩
  rw [hn] at hp ⊢
  have HP := Lib.hid hp
  have HN := Lib.hid hn
  clear ho hp hn
  go_wp2
  refine bodyPost_ret (v := .tuple #[.agg #[.int .i64 m, .slice A n cap], .bool b]) (by unfold results; rw [Tryd.results10]; go_simp) rfl ?_
  refine ⟨_, rfl, ?_, ?_⟩
  · have h4 := own_base (base' := w.heap.size) (own_put (o := 1) (u := .slice A n cap) (own_put (b := w.heap.size) (o := 0) (u := .int .i64 m) HP.out (by omega)) (b := w.heap.size) (by omega)) (by omega)
    unfold Ow
    rw [List.length_map, HN.out]
    exact h4
  · iterate 2 (refine Below.setCell ?_ (by simp <;> omega) _)
    exact hB1

set_option maxRecDepth 100000 in
theorem heldParity_c (w : World) (m0 : Int) (A : Option Addr) (n cap : Nat) (hn : n ≤ 1099511627776) (k : Int) (h0 : 0 ≤ k) (hk : k ≤ 1099511627776) (hx : Sl w w.heap.size A (marks (fun q => .int .i64 q) k n)) :
    Calls Tryd.prog 14 #[.agg #[.int .i64 m0, .slice A n cap], .int .i64 k] w fun e w' => e = .returned (.int .i64 (k + n)) ∧ Below w.heap.size w w' := by
  have hB := (Below.refl w.heap.size w).alloc (Nat.le_refl _) (Obj.cells #[.int .i64 m0, .slice A n cap] 31)
  have hH := Lib.hid (heldInt64S_c (w.alloc (Obj.cells #[.int .i64 m0, .slice A n cap] 31)) _ A n cap hn k h0 hk (hx.alloc (Nat.le_refl _) _))
  have hkn : 0 ≤ k + (n : Int) := by omega
  clear hx
  go_enter Tryd.func14, Tryd.ntmps14
  go_wp2_with (go_at_call 20; refine hH.out.mono ?_; rintro e w' ⟨rfl, m, rfl⟩)
  go_ret
  exact ⟨rfl, below_drewN hB _⟩

theorem rp_len (l : List UInt8) : (rpT l).2.1.length ≤ 64 := by
  unfold rpT
  split
  · rename_i m D h
    unfold rpL at h
    split at h
    · split at h
      · rename_i m2 D2 h1 h2
        split at h
        · obtain ⟨rfl, rfl⟩ : m2 = m ∧ D2 = D := by simpa using h
          exact lstZ_len h2
        · cases h
      · cases h
    · cases h
  · exact Nat.zero_le _

set_option maxRecDepth 100000 in
set_option maxHeartbeats 4000000 in
theorem law_ReadParity (w : World) (s : ByteArray) (hs : s.size ≤ maxLen) (ht : Tab w) (he : Errs w) (hm : maxLenOk w) :
    Calls Tryd.prog 4 #[.string s] w fun e w' => e = .returned (.bool true) ∧ Below w.heap.size w w' := by
  unfold maxLen at hs
  rcases Nat.lt_or_ge 1048576 s.size with h1 | h1
  · go_enter Tryd.func4, Tryd.ntmps4
    go_wp2
    go_ret
    exact ⟨rfl, Below.refl _ _⟩
  have hq : ∀ b : Bool, (b == b) = true := fun b => by simp
  have hml := hm.lt
  have HIMPL := Lib.hid (fun W (hW : Below w.heap.size w W) => impl_ReadParity_c W s h1 (hm.below hW hml) (ht.below hW (Nat.le_refl _)) (he.below hW (Nat.le_refl _)))
  have HSPEC := Lib.hid (spec_ReadParity_c w s h1)
  clear ht he hm
  have hln := rp_len s.data.toList
  unfold RpPost at HSPEC HIMPL
  obtain ⟨⟨m0, xs, b⟩, hd⟩ : ∃ d, rpT s.data.toList = d := ⟨_, rfl⟩
  rw [hd] at HSPEC HIMPL hln
  simp only at HSPEC HIMPL hln
  clear hd
  obtain ⟨n, hn⟩ : ∃ n, xs.length = n := ⟨_, rfl⟩
  rw [hn] at hln
  go_enter Tryd.func4, Tryd.ntmps4
  go_wp2_with fail
  refine HSPEC.out.mono ?_
  rintro e w1 ⟨v1, rfl, ho1, hb1⟩
  obtain ⟨S1, k1, rfl, hp1⟩ := ho1.opn
  rw [hn] at hp1 ⊢
  clear ho1 HSPEC
  have z1 := hb1.size
  have HI1 := Lib.hid (own_in hp1)
  go_wp2_with fail
  obtain ⟨w2, e2⟩ : ∃ q : World, q = w1.alloc (.cells #[.int .i64 m0, .slice S1 n k1] 31) := ⟨_, rfl⟩
  have c2a : w2.cell? ⟨w1.heap.size, 0, none⟩ = some (.int .i64 m0) := by rw [e2]; (first | (simp; done) | (simp (disch := (first | (simp; done) | (simp; omega))) [World.cell?_alloc_at]; done) | (simp (disch := (first | (simp; done) | (simp; omega))) [World.cell?_alloc_past]; done) | (simp (disch := (first | (simp; done) | (simp; omega))) [World.cell?_alloc_at, World.cell?_alloc_past]; done) | (simp (disch := (first | (simp; done) | (simp; omega))) [World.frozen?_alloc_at]; done) | (simp (disch := (first | (simp; done) | (simp; omega))) [World.frozen?_alloc_past]; done) | (simp (disch := (first | (simp; done) | (simp; omega))) [World.frozen?_alloc_at, World.frozen?_alloc_past]; done))
  have c2b : w2.cell? ⟨w1.heap.size, 1, none⟩ = some (.slice S1 n k1) := by rw [e2]; (first | (simp; done) | (simp (disch := (first | (simp; done) | (simp; omega))) [World.cell?_alloc_at]; done) | (simp (disch := (first | (simp; done) | (simp; omega))) [World.cell?_alloc_past]; done) | (simp (disch := (first | (simp; done) | (simp; omega))) [World.cell?_alloc_at, World.cell?_alloc_past]; done) | (simp (disch := (first | (simp; done) | (simp; omega))) [World.frozen?_alloc_at]; done) | (simp (disch := (first | (simp; done) | (simp; omega))) [World.frozen?_alloc_past]; done) | (simp (disch := (first | (simp; done) | (simp; omega))) [World.frozen?_alloc_at, World.frozen?_alloc_past]; done))
  have b2 : Below w1.heap.size w1 w2 := by rw [e2]; exact (Below.refl _ _).alloc (Nat.le_refl _) _
  have z2 : w2.heap.size = w1.heap.size + 1 := by rw [e2]; simp
  rw [← e2]
  clear e2
  have B2 := hb1.trans (b2.mono z1)
  have HP1 := Lib.hid (own_below hp1 b2 (Nat.le_refl _))
  clear hp1
  refine (HIMPL.out w2 B2).mono ?_
  rintro e w3 ⟨v3, rfl, ho3, hb3⟩
  obtain ⟨S3, k3, rfl, hp3⟩ := ho3.opn
  rw [hn] at hp3 ⊢
  clear ho3
  have z3 := hb3.size
  have HI3 := Lib.hid (own_in hp3)
  have c2a := (hb3.cell (p := ⟨w1.heap.size, 0, none⟩) (by simp only []; omega)).trans c2a
  have c2b := (hb3.cell (p := ⟨w1.heap.size, 1, none⟩) (by simp only []; omega)).trans c2b
  have B3 := B2.trans (hb3.mono (by omega))
  have HP1 := Lib.hid (own_below HP1.out hb3 (Nat.le_refl _))
  have lt3 : w1.heap.size < w3.heap.size := by omega
  go_wp2_with fail
  obtain ⟨w4, e4⟩ : ∃ q : World, q = w3.alloc (.cells #[.int .i64 m0, .slice S3 n k3] 31) := ⟨_, rfl⟩
  have c4a : w4.cell? ⟨w3.heap.size, 0, none⟩ = some (.int .i64 m0) := by rw [e4]; (first | (simp; done) | (simp (disch := (first | (simp; done) | (simp; omega))) [World.cell?_alloc_at]; done) | (simp (disch := (first | (simp; done) | (simp; omega))) [World.cell?_alloc_past]; done) | (simp (disch := (first | (simp; done) | (simp; omega))) [World.cell?_alloc_at, World.cell?_alloc_past]; done) | (simp (disch := (first | (simp; done) | (simp; omega))) [World.frozen?_alloc_at]; done) | (simp (disch := (first | (simp; done) | (simp; omega))) [World.frozen?_alloc_past]; done) | (simp (disch := (first | (simp; done) | (simp; omega))) [World.frozen?_alloc_at, World.frozen?_alloc_past]; done))
  have c4b : w4.cell? ⟨w3.heap.size, 1, none⟩ = some (.slice S3 n k3) := by rw [e4]; (first | (simp; done) | (simp (disch := (first | (simp; done) | (simp; omega))) [World.cell?_alloc_at]; done) | (simp (disch := (first | (simp; done) | (simp; omega))) [World.cell?_alloc_past]; done) | (simp (disch := (first | (simp; done) | (simp; omega))) [World.cell?_alloc_at, World.cell?_alloc_past]; done) | (simp (disch := (first | (simp; done) | (simp; omega))) [World.frozen?_alloc_at]; done) | (simp (disch := (first | (simp; done) | (simp; omega))) [World.frozen?_alloc_past]; done) | (simp (disch := (first | (simp; done) | (simp; omega))) [World.frozen?_alloc_at, World.frozen?_alloc_past]; done))
  have b4 : Below w3.heap.size w3 w4 := by rw [e4]; exact (Below.refl _ _).alloc (Nat.le_refl _) _
  have z4 : w4.heap.size = w3.heap.size + 1 := by rw [e4]; simp
  rw [← e4]
  clear e4
  have c2a := (b4.cell (p := ⟨w1.heap.size, 0, none⟩) (by simp only []; omega)).trans c2a
  have c2b := (b4.cell (p := ⟨w1.heap.size, 1, none⟩) (by simp only []; omega)).trans c2b
  have B4 := B3.trans (b4.mono (by omega))
  have HP1 := Lib.hid (own_below HP1.out b4 (Nat.le_refl _))
  have HP3 := Lib.hid (own_below hp3 b4 (Nat.le_refl _))
  clear hp3
  refine (eqParity_t w4 m0 S3 S1 n k3 k1 xs hn (Nat.le_trans hln (by decide)) (sl_of_own HP3.out) (sl_of_own HP1.out)).mono ?_
  rintro e w5 ⟨rfl, hb5⟩
  have z5 := hb5.size
  have c2a := (hb5.cell (p := ⟨w1.heap.size, 0, none⟩) (by simp only []; omega)).trans c2a
  have c2b := (hb5.cell (p := ⟨w1.heap.size, 1, none⟩) (by simp only []; omega)).trans c2b
  have c4a := (hb5.cell (p := ⟨w3.heap.size, 0, none⟩) (by simp only []; omega)).trans c4a
  have c4b := (hb5.cell (p := ⟨w3.heap.size, 1, none⟩) (by simp only []; omega)).trans c4b
  have HP1 := Lib.hid (own_below HP1.out hb5 (Nat.le_refl _))
  have HP3 := Lib.hid (own_below HP3.out hb5 (Nat.le_refl _))
  have B5 := B4.trans (hb5.mono (by omega))
  go_wp2_with fail
  refine (markParity_c w5 w2.heap.size m0 S3 n k3 _ (Nat.le_trans hln (by decide)) 1 (by decide) (by decide) HP3.out).mono ?_
  rintro e w6 ⟨rfl, hm3, hg6⟩
  have z6 := hg6.size
  have c2a := (cell_apart hg6 HI3.out (p := ⟨w1.heap.size, 0, none⟩) (by simp only []; omega) (.inl (by simp only []; omega))).trans c2a
  have c2b := (cell_apart hg6 HI3.out (p := ⟨w1.heap.size, 1, none⟩) (by simp only []; omega) (.inl (by simp only []; omega))).trans c2b
  have c4a := (cell_apart hg6 HI3.out (p := ⟨w3.heap.size, 0, none⟩) (by simp only []; omega) (.inr (by simp only []; omega))).trans c4a
  have c4b := (cell_apart hg6 HI3.out (p := ⟨w3.heap.size, 1, none⟩) (by simp only []; omega) (.inr (by simp only []; omega))).trans c4b
  have HP1 := Lib.hid (own_apart HP1.out hg6 HI1.out HI3.out (by omega))
  have HP3 := Lib.hid hm3
  have B6 : Below w.heap.size w w6 := below_marked B5 hg6 HI3.out (by omega) (by omega)
  have hk6 : (0 : Int) ≤ 1 + (n : Nat) := by omega
  clear hm3
  go_wp2_with fail
  refine (heldParity_c w6 m0 S3 n k3 (Nat.le_trans hln (by decide)) 1 (by decide) (by decide) (sl_of_own HP3.out)).mono ?_
  rintro e w7 ⟨rfl, hb7⟩
  have z7 := hb7.size
  have c2a := (hb7.cell (p := ⟨w1.heap.size, 0, none⟩) (by simp only []; omega)).trans c2a
  have c2b := (hb7.cell (p := ⟨w1.heap.size, 1, none⟩) (by simp only []; omega)).trans c2b
  have c4a := (hb7.cell (p := ⟨w3.heap.size, 0, none⟩) (by simp only []; omega)).trans c4a
  have c4b := (hb7.cell (p := ⟨w3.heap.size, 1, none⟩) (by simp only []; omega)).trans c4b
  have HP1 := Lib.hid (own_below HP1.out hb7 (Nat.le_refl _))
  have HP3 := Lib.hid (own_below HP3.out hb7 (Nat.le_refl _))
  have B7 := B6.trans (hb7.mono (by omega))
  go_wp2_with fail
  refine (HIMPL.out w7 B7).mono ?_
  rintro e w8 ⟨v5, rfl, ho5, hb8⟩
  obtain ⟨S5, k5, rfl, hp5⟩ := ho5.opn
  rw [hn] at hp5 ⊢
  clear ho5
  have z8 := hb8.size
  have c2a := (hb8.cell (p := ⟨w1.heap.size, 0, none⟩) (by simp only []; omega)).trans c2a
  have c2b := (hb8.cell (p := ⟨w1.heap.size, 1, none⟩) (by simp only []; omega)).trans c2b
  have c4a := (hb8.cell (p := ⟨w3.heap.size, 0, none⟩) (by simp only []; omega)).trans c4a
  have c4b := (hb8.cell (p := ⟨w3.heap.size, 1, none⟩) (by simp only []; omega)).trans c4b
  have HP1 := Lib.hid (own_below HP1.out hb8 (Nat.le_refl _))
  have HP3 := Lib.hid (own_below HP3.out hb8 (Nat.le_refl _))
  have B8 := B7.trans (hb8.mono (by omega))
  have lt8 : w1.heap.size < w8.heap.size := by omega
  go_wp2_with fail
  obtain ⟨w9, e9⟩ : ∃ q : World, q = w8.alloc (.cells #[.int .i64 m0, .slice S5 n k5] 31) := ⟨_, rfl⟩
  have b9 : Below w8.heap.size w8 w9 := by rw [e9]; exact (Below.refl _ _).alloc (Nat.le_refl _) _
  rw [← e9]
  clear e9
  have z9 := b9.size
  have c4a := (b9.cell (p := ⟨w3.heap.size, 0, none⟩) (by simp only []; omega)).trans c4a
  have c4b := (b9.cell (p := ⟨w3.heap.size, 1, none⟩) (by simp only []; omega)).trans c4b
  have HP1 := Lib.hid (own_below HP1.out b9 (Nat.le_refl _))
  have HP3 := Lib.hid (own_below HP3.out b9 (Nat.le_refl _))
  have HP5 := Lib.hid (own_below hp5 b9 (Nat.le_refl _))
  have B9 := B8.trans (b9.mono (by omega))
  clear hp5 c2a c2b
  refine (eqParity_t w9 m0 S5 S1 n k5 k1 xs hn (Nat.le_trans hln (by decide)) (sl_of_own HP5.out) (sl_of_own HP1.out)).mono ?_
  rintro e w10 ⟨rfl, hb10⟩
  have z10 := hb10.size
  have c4a := (hb10.cell (p := ⟨w3.heap.size, 0, none⟩) (by simp only []; omega)).trans c4a
  have c4b := (hb10.cell (p := ⟨w3.heap.size, 1, none⟩) (by simp only []; omega)).trans c4b
  have HP3 := Lib.hid (own_below HP3.out hb10 (Nat.le_refl _))
  have B10 := B9.trans (hb10.mono (by omega))
  go_wp2_with fail
  refine (heldParity_c w10 m0 S3 n k3 (Nat.le_trans hln (by decide)) 1 (by decide) (by decide) (sl_of_own HP3.out)).mono ?_
  rintro e w11 ⟨rfl, hb11⟩
  have B11 := B10.trans (hb11.mono (by omega))
  go_wp2
  go_ret
  exact ⟨rfl, B11⟩

end Go.Proofs.YtajobeajmndglaaDoor
