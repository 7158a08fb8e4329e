/-
  Contracts: one that is saved, turned and looked at again.
  Conditions: lengths at most 1048576.
-/
import Derived.Test.YtmkjlhobnlgpjaaTV
namespace Go.Proofs.Ytmkjlhobnlgpjaa
open Go.RowKit

/-- only blocks from c to d are turned -/
structure Spot (c d : Nat) (w w' : World) : Prop where
  os : w'.os = w.os
  tape : w'.tape = w.tape
  output : w'.output = w.output
  size : w.heap.size ≤ w'.heap.size
  block : ∀ i, i < w.heap.size → (i < c ∨ d ≤ i) → w'.heap[i]? = w.heap[i]?
theorem Spot.refl (c d : Nat) (w : World) : Spot c d w w := ⟨rfl, rfl, rfl, Nat.le_refl _, fun _ _ _ => rfl⟩
theorem Spot.trans {c d : Nat} {w w1 w2 : World} (h : Spot c d w w1) (g : Spot c d w1 w2) : Spot c d w w2 :=
  ⟨g.os.trans h.os, g.tape.trans h.tape, g.output.trans h.output, Nat.le_trans h.size g.size, fun i hi hc => (g.block i (Nat.lt_of_lt_of_le hi h.size) hc).trans (h.block i hi hc)⟩
theorem Spot.of_grown {c d : Nat} {w w' : World} {v : Value} (h : w.grownBy w' v.ownBlock) (hv : In v c d) : Spot c d w w' :=
  ⟨h.os, h.tape, h.output, h.size, fun i hi hc => h.block i hi fun he => by
    have := hv i he.symm
    omega⟩
theorem Spot.of_below {c d : Nat} {w w' : World} (h : Below w.heap.size w w') : Spot c d w w' := ⟨h.os, h.tape, h.output, h.size, fun i hi _ => h.block i hi⟩
theorem own_spot {w w' : World} {base : Nat} {e : TypeId} {size n : Nat} {v : Value} {xs : List Value} {a b c d : Nat} (h : w.ownsRow base e size v n xs) (hs : Spot c d w w') (hv : In v a b) (ho : b ≤ c ∨ d ≤ a) : w'.ownsRow base e size v n xs := by
  refine ⟨h.1, ?_⟩
  rcases h.2 with hn | ⟨g, cap, cur, rfl, hbg, hg, rest⟩
  · exact .inl hn
  · refine .inr ⟨g, cap, cur, rfl, hbg, ?_, rest⟩
    have h1 := hv g rfl
    rw [hs.block g (Array.getElem?_eq_some_iff.1 hg).1 (by omega)]
    exact hg
theorem cell_spot {w w' : World} {p : Addr} {c d : Nat} (hs : Spot c d w w') (hp : p.block < w.heap.size) (ho : p.block < c ∨ d ≤ p.block) : w'.cell? p = w.cell? p := by
  unfold World.cell?
  rw [hs.block p.block hp ho]
theorem below_spot {B c d : Nat} {w w1 w' : World} (h : Below B w w1) (hs : Spot c d w1 w') (hc : B ≤ c) (hz : B ≤ w1.heap.size) : Below B w w' :=
  ⟨hs.os.trans h.os, hs.tape.trans h.tape, hs.output.trans h.output, Nat.le_trans h.size hs.size, fun i hi => (hs.block i (by omega) (.inl (by omega))).trans (h.block i hi)⟩
/-- rows of different types lie in different blocks -/
theorem types_apart {w : World} {base base2 : Nat} {e e2 : TypeId} {v u : Value} {n m : Nat} {xs zs : List Value} (h : w.ownsRow base e 1 v n xs) (h2 : w.ownsRow base2 e2 1 u m zs) (hne : e ≠ e2) : ∀ g, v.ownBlock = some g → u.ownBlock ≠ some g := by
  intro g hg hu
  rcases h.2 with ⟨rfl, _⟩ | ⟨g1, c1, cur1, rfl, _, hg1, _⟩
  · cases hg
  · rcases h2.2 with ⟨rfl, _⟩ | ⟨g2, c2, cur2, rfl, _, hg2, _⟩
    · cases hu
    · injection hg with hg
      injection hu with hu
      have e1 : g1 = g := hg
      have e2 : g2 = g := hu
      subst e1
      subst e2
      rw [hg1] at hg2
      injection hg2 with hg2
      injection hg2 with _ h3
      exact hne h3
theorem kept_types {w w' : World} {base base2 : Nat} {e e2 : TypeId} {v u : Value} {n m : Nat} {xs zs : List Value} (h : w.ownsRow base e 1 v n xs) (h2 : w.ownsRow base2 e2 1 u m zs) (hne : e ≠ e2) (hg : w.grownBy w' u.ownBlock) : w'.ownsRow base e 1 v n xs := by
  refine h.kept hg ?_
  cases hv : v.ownBlock with
  | none => exact .inl rfl
  | some g => exact .inr fun he => types_apart h h2 hne g hv he.symm
theorem st3_obj {W : World} {B : Nat} {t : TypeId} {x y z : Value} (h : Obj W B t #[x, y, z]) (a b c : Value) : Obj (st3 W B a b c) B t #[a, b, c] := by
  have h1 := ((h.set 0 a).set 1 b).set 2 c
  unfold st3
  simpa using h1
theorem st3_size (W : World) (B : Nat) (a b c : Value) : (st3 W B a b c).heap.size = W.heap.size := by simp [st3]
theorem Obj.spot {w w' : World} {B c d : Nat} {t : TypeId} {cs : Array Value} (h : Obj w B t cs) (hs : Spot c d w w') (ho : B < c ∨ d ≤ B) : Obj w' B t cs := (hs.block B h.lt ho).trans h
theorem cell_apart {w w' : World} {u : Value} {p : Addr} (hg : w.grownBy w' u.ownBlock) {c d : Nat} (hu : In u c d) (hp : p.block < w.heap.size) (hs : p.block < c ∨ d ≤ p.block) : w'.cell? p = w.cell? p := by
  have h1 := hg.block p.block hp (fun he => by
    have h2 := hu p.block he.symm
    omega)
  unfold World.cell?
  rw [h1]


set_option maxRecDepth 100000 in
theorem markSaved_c (w : World) (base c d : Nat) (s : ByteArray) (A1 : Option Addr) (n1 cap1 : Nat) (xs1 : List Value) (hn1 : n1 ≤ 1048576) (A2 : Option Addr) (n2 cap2 : Nat) (xs2 : List Value) (hn2 : n2 ≤ 1048576) (k : Int) (h0 : 0 ≤ k) (hk : k ≤ 1048576)
    (ho1 : w.ownsRow base 4 1 (.slice A1 n1 cap1) n1 xs1) (ho2 : w.ownsRow base 58 1 (.slice A2 n2 cap2) n2 xs2) (hd1 : In (.slice A1 n1 cap1) c d) (hd2 : In (.slice A2 n2 cap2) c d) :
    Calls Try.prog 23 #[.agg #[.string s, .slice A1 n1 cap1, .slice A2 n2 cap2], .int .i64 k] w fun e w' => e = .returned (.int .i64 (k + n1 + n2)) ∧ w'.ownsRow base 4 1 (.slice A1 n1 cap1) n1 (marks (fun q => .bool (q % 3 == 0)) k n1) ∧ w'.ownsRow base 58 1 (.slice A2 n2 cap2) n2 (marks (fun q => .float .f32 (floatOfInt .f32 q)) (k + n1) n2) ∧ Spot c d w w' := by
  obtain ⟨w1, e1⟩ : ∃ q : World, q = w.alloc (.cells #[.string s, .slice A1 n1 cap1, .slice A2 n2 cap2] 35) := ⟨_, rfl⟩
  have B1 : Below w.heap.size w w1 := by rw [e1]; exact (Below.refl _ _).alloc (Nat.le_refl _) _
  have c1 : w1.cell? ⟨w.heap.size, 1, none⟩ = some (.slice A1 n1 cap1) := by rw [e1]; (first | (simp; done) | (simp (disch := (first | (simp; done) | (simp; omega))) [World.cell?_alloc_at]; done) | (simp (disch := (first | (simp; done) | (simp; omega))) [World.cell?_alloc_past]; done) | (simp (disch := (first | (simp; done) | (simp; omega))) [World.cell?_alloc_at, World.cell?_alloc_past]; done) | (simp (disch := (first | (simp; done) | (simp; omega))) [World.frozen?_alloc_at]; done) | (simp (disch := (first | (simp; done) | (simp; omega))) [World.frozen?_alloc_past]; done) | (simp (disch := (first | (simp; done) | (simp; omega))) [World.frozen?_alloc_at, World.frozen?_alloc_past]; done))
  have c2 : w1.cell? ⟨w.heap.size, 2, none⟩ = some (.slice A2 n2 cap2) := by rw [e1]; (first | (simp; done) | (simp (disch := (first | (simp; done) | (simp; omega))) [World.cell?_alloc_at]; done) | (simp (disch := (first | (simp; done) | (simp; omega))) [World.cell?_alloc_past]; done) | (simp (disch := (first | (simp; done) | (simp; omega))) [World.cell?_alloc_at, World.cell?_alloc_past]; done) | (simp (disch := (first | (simp; done) | (simp; omega))) [World.frozen?_alloc_at]; done) | (simp (disch := (first | (simp; done) | (simp; omega))) [World.frozen?_alloc_past]; done) | (simp (disch := (first | (simp; done) | (simp; omega))) [World.frozen?_alloc_at, World.frozen?_alloc_past]; done))
  have z1 : w1.heap.size = w.heap.size + 1 := by rw [e1]; simp
  have g1 := own_below ho1 B1 (Nat.le_refl _)
  have g2 := own_below ho2 B1 (Nat.le_refl _)
  have s1 : Spot c d w w1 := Spot.of_below B1
  have hlt : ∀ g, (Value.slice A2 n2 cap2).ownBlock = some g → g < w.heap.size := by
    intro g hg
    rcases ho2.2 with ⟨he, _⟩ | ⟨g1, cc, cur, he, _, hgg, _⟩
    · rw [he] at hg; cases hg
    · rw [he] at hg
      injection hg with hg
      have e1 : g1 = g := hg
      subst e1
      exact (Array.getElem?_eq_some_iff.1 hgg).1
  have hlt1 : ∀ g, (Value.slice A1 n1 cap1).ownBlock = some g → g < w.heap.size := by
    intro g hg
    rcases ho1.2 with ⟨he, _⟩ | ⟨g1, cc, cur, he, _, hgg, _⟩
    · rw [he] at hg; cases hg
    · rw [he] at hg
      injection hg with hg
      have e1 : g1 = g := hg
      subst e1
      exact (Array.getElem?_eq_some_iff.1 hgg).1
  have HL := Lib.hid hlt
  have HL1 := Lib.hid hlt1
  have HO1 := Lib.hid g1
  have HO2 := Lib.hid g2
  clear ho1 ho2 hlt hlt1 g1 g2
  go_enter Try.func23, Try.ntmps23
  go_wp2_with fail
  rw [← e1]
  clear e1
  go_wp2_with fail
  refine (markBoolS_c w1 base A1 n1 cap1 xs1 (Nat.le_trans hn1 (by decide)) k h0 (by omega) HO1.out).mono ?_
  rintro e w2 ⟨rfl, p1, hg1⟩
  have p2 := kept_types HO2.out HO1.out (by decide) hg1
  have c3 : w2.cell? ⟨w.heap.size, 2, none⟩ = some (.slice A2 n2 cap2) := by
    rw [← c2]
    unfold World.cell?
    rw [hg1.block w.heap.size (by omega) (fun he => Nat.lt_irrefl _ (HL1.out _ he.symm))]
  have s2 := s1.trans (Spot.of_grown hg1 hd1)
  have HP1 := Lib.hid p1
  have HP2 := Lib.hid p2
  clear p1 p2 c1 c2
  go_wp2_with fail
  refine (markFloat32S_c w2 base A2 n2 cap2 xs2 (Nat.le_trans hn2 (by decide)) (k + (n1 : Nat)) (by omega) (by omega) HP2.out).mono ?_
  rintro e w3 ⟨rfl, p2, hg2⟩
  have p1 := kept_types HP1.out HP2.out (by decide) hg2
  have s3 := s2.trans (Spot.of_grown hg2 hd2)
  go_wp2
  go_ret
  exact ⟨rfl, p1, p2, s3⟩


set_option maxRecDepth 100000 in
theorem heldSaved_c (w : World) (b1 b2 : Nat) (s : ByteArray) (A1 : Option Addr) (n1 cap1 : Nat) (hn1 : n1 ≤ 1048576) (A2 : Option Addr) (n2 cap2 : Nat) (hn2 : n2 ≤ 1048576) (k : Int) (h0 : 0 ≤ k) (hk : k ≤ 1048576)
    (hx : Sl w b1 A1 (marks (fun q => .bool (q % 3 == 0)) k n1)) (hy : Sl w b2 A2 (marks (fun q => .float .f32 (floatOfInt .f32 q)) (k + n1) n2)) (hb1 : b1 ≤ w.heap.size) (hb2 : b2 ≤ w.heap.size) :
    Calls Try.prog 24 #[.agg #[.string s, .slice A1 n1 cap1, .slice A2 n2 cap2], .int .i64 k] w fun e w' => e = .returned (.int .i64 (k + n1 + n2)) ∧ Below w.heap.size w w' := by
  obtain ⟨w1, e1⟩ : ∃ q : World, q = w.alloc (.cells #[.string s, .slice A1 n1 cap1, .slice A2 n2 cap2] 35) := ⟨_, rfl⟩
  have B1 : Below w.heap.size w w1 := by rw [e1]; exact (Below.refl _ _).alloc (Nat.le_refl _) _
  have c1 : w1.cell? ⟨w.heap.size, 1, none⟩ = some (.slice A1 n1 cap1) := by rw [e1]; (first | (simp; done) | (simp (disch := (first | (simp; done) | (simp; omega))) [World.cell?_alloc_at]; done) | (simp (disch := (first | (simp; done) | (simp; omega))) [World.cell?_alloc_past]; done) | (simp (disch := (first | (simp; done) | (simp; omega))) [World.cell?_alloc_at, World.cell?_alloc_past]; done) | (simp (disch := (first | (simp; done) | (simp; omega))) [World.frozen?_alloc_at]; done) | (simp (disch := (first | (simp; done) | (simp; omega))) [World.frozen?_alloc_past]; done) | (simp (disch := (first | (simp; done) | (simp; omega))) [World.frozen?_alloc_at, World.frozen?_alloc_past]; done))
  have c2 : w1.cell? ⟨w.heap.size, 2, none⟩ = some (.slice A2 n2 cap2) := by rw [e1]; (first | (simp; done) | (simp (disch := (first | (simp; done) | (simp; omega))) [World.cell?_alloc_at]; done) | (simp (disch := (first | (simp; done) | (simp; omega))) [World.cell?_alloc_past]; done) | (simp (disch := (first | (simp; done) | (simp; omega))) [World.cell?_alloc_at, World.cell?_alloc_past]; done) | (simp (disch := (first | (simp; done) | (simp; omega))) [World.frozen?_alloc_at]; done) | (simp (disch := (first | (simp; done) | (simp; omega))) [World.frozen?_alloc_past]; done) | (simp (disch := (first | (simp; done) | (simp; omega))) [World.frozen?_alloc_at, World.frozen?_alloc_past]; done))
  have hx1 := (hx.more hb1).below B1
  have hy1 := (hy.more hb2).below B1
  have HX := Lib.hid hx1
  have HY := Lib.hid hy1
  clear hx hy hx1 hy1
  go_enter Try.func24, Try.ntmps24
  go_wp2_with fail
  rw [← e1]
  clear e1
  go_wp2_with fail
  refine (heldBoolS_c w1 _ A1 n1 cap1 (Nat.le_trans hn1 (by decide)) k h0 (by omega) HX.out).mono ?_
  rintro e w2 ⟨rfl, m, rfl⟩
  have hk1 : (0 : Int) ≤ k + (n1 : Nat) := by omega
  have hc2 : (w1.drewN m).cell? ⟨w.heap.size, 2, none⟩ = some (.slice A2 n2 cap2) := c2
  go_wp2_with fail
  refine (heldFloat32S_c (w1.drewN m) _ A2 n2 cap2 (Nat.le_trans hn2 (by decide)) (k + (n1 : Nat)) (by omega) (by omega) (HY.out.drewN m)).mono ?_
  rintro e w3 ⟨rfl, m2, rfl⟩
  have hk2 : (0 : Int) ≤ k + (n1 : Nat) + (n2 : Nat) := by omega
  go_wp2
  go_ret
  exact ⟨rfl, below_drewN B1 _⟩

end Go.Proofs.Ytmkjlhobnlgpjaa
