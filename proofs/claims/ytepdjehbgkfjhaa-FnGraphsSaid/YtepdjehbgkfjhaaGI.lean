/-
  Contracts: graphs and soft numbers that are drawn from bytes.
  Conditions: at most 1048576 bytes.
-/
import Derived.Test.YtepdjehbgkfjhaaGH
import Derived.Test.YtepdjehbgkfjhaaXB
namespace Go.Proofs.Ytepdjehbgkfjhaa
open Go.RowKit

theorem Obj.gr {w w' : World} {B z S : Nat} {t : TypeId} {cs : Array Value} (h : Obj w B t cs) (hg : Gr z S w w') (hB : B < z) (hne : B ≠ S) : Obj w' B t cs := (hg.block B hB hne).trans h
theorem own_types {W : World} {b1 b2 s1 s2 k1 k2 : Nat} {e1 e2 : TypeId} {v1 v2 : Value} {x1 x2 : List Value} (h1 : W.ownsRow b1 e1 s1 v1 k1 x1) (h2 : W.ownsRow b2 e2 s2 v2 k2 x2) (hne : e1 ≠ e2) : v1.ownBlock = none ∨ v1.ownBlock ≠ v2.ownBlock := by
  rcases h1.2 with ⟨rfl, _⟩ | ⟨g, cap, cur, rfl, _, hgb, _⟩
  · exact .inl rfl
  · refine .inr fun e' => ?_
    rcases h2.2 with ⟨rfl, _⟩ | ⟨g', cap', cur', rfl, _, hgb', _⟩
    · simp [Value.ownBlock] at e'
    · obtain rfl : g = g' := by simpa [Value.ownBlock] using e'
      have := hgb.symm.trans hgb'
      simp at this
      exact hne this.2
theorem own_nil0 (w : World) (base : Nat) (e : TypeId) : Ow w base e (.slice none 0 0) [] := ⟨rfl, .inl ⟨rfl, rfl⟩⟩
/-- numbers that rise strictly, below a bound -/
def Rise (l : List Int) (q : Nat) : Prop := (∀ x ∈ l, 0 ≤ x ∧ x < (q : Int)) ∧ l.Pairwise (· < ·) ∧ l.length ≤ q
theorem Rise.nil (q : Nat) : Rise [] q := ⟨by simp, List.Pairwise.nil, Nat.zero_le _⟩
theorem Rise.snoc {l : List Int} {q : Nat} (h : Rise l q) : Rise (l ++ [(q : Int)]) (q + 1) := by
  refine ⟨fun x hx => ?_, ?_, ?_⟩
  · rcases List.mem_append.1 hx with hx | hx
    · have := h.1 x hx; omega
    · obtain rfl := List.mem_singleton.1 hx; omega
  · rw [List.pairwise_append]
    refine ⟨h.2.1, List.pairwise_singleton _ _, fun a ha b hb => ?_⟩
    obtain rfl := List.mem_singleton.1 hb
    exact (h.1 a ha).2
  · have := h.2.2
    simp
    exact this
theorem Rise.more {l : List Int} {q : Nat} (h : Rise l q) : Rise l (q + 1) := ⟨fun x hx => by have := h.1 x hx; omega, h.2.1, Nat.le_succ_of_le h.2.2⟩
theorem Rise.one {x : Int} {q : Nat} (h0 : 0 ≤ x) (h1 : x < (q : Int)) : Rise [x] q := ⟨fun y hy => by obtain rfl := List.mem_singleton.1 hy; exact ⟨h0, h1⟩, List.pairwise_singleton _ _, by simp; omega⟩
theorem Rise.row {l : List Int} {q : Nat} (h : Rise l q) (h1 : 1 ≤ l.length) : rowOk (q : Int) l = true := by
  unfold rowOk
  rw [Bool.and_eq_true, decide_eq_true_eq]
  refine ⟨h1, ?_⟩
  unfold setB
  rw [List.all_eq_true]
  intro i hi
  have hi := List.mem_range.1 hi
  unfold setAt
  have hb := h.1 _ (List.getElem_mem hi)
  rw [Bool.and_eq_true, getD_eq hi]
  refine ⟨inB_true.2 (by omega), ?_⟩
  cases i with
  | zero => rfl
  | succ i =>
    rw [Bool.or_eq_true, decide_eq_true_eq]
    right
    rw [Nat.add_sub_cancel, getD_eq (show i < l.length by omega)]
    exact (List.pairwise_iff_getElem.1 h.2.1) i (i + 1) (by omega) hi (by omega)
theorem Rise.once {l : List Int} {q : Nat} (h : Rise l q) : Once l := by
  intro i j hi hj he
  rw [getD_eq hi, getD_eq hj] at he
  have hp := List.pairwise_iff_getElem.1 h.2.1
  rcases Nat.lt_trichotomy i j with h1 | h1 | h1
  · have := hp i j hi hj h1; omega
  · exact h1
  · have := hp j i hj hi h1; omega


theorem one3_c (w : World) (S B : Nat) (A : Option Addr) (n cap m : Nat) (c : List Int) (hl : c.length = n) (hn : n ≤ 1048576) (hb : ∀ x ∈ c, 0 ≤ x ∧ x ≤ 255) (hx : Sl w B A (c.map (Value.int .u8))) (hBS : B ≤ S) (hm : m ≤ 1048570) (ho : Src w S A n cap m) :
    Calls Try.prog 18 #[.pointer (some ⟨S, 0, none⟩), .int .i64 3] w fun e w' => ∃ x : Bool, e = .returned (.bool x) ∧ Src w' S A n cap (m + 1) ∧ w.grownBy w' (some S) := by
  go_enter Try.func18, Try.ntmps18
  go_wp2_with fail
  refine (pick_c w S B A n cap m c hl hn hb hx hBS hm ho 3 (by decide) (by decide)).mono ?_
  rintro e w1 ⟨x, rfl, hx0, hx1, hs, hg⟩
  have HS := Lib.hid hs
  have HG := Lib.hid hg
  clear hs hg
  go_wp2
  go_ret
  exact ⟨_, rfl, HS.out, HG.out⟩


/-- the rows drawn -/
def Rows2 (W : World) (base : Nat) (M : Nat) (v : Value) (ys : List RowH) : Prop := Ow W base 43 v (ys.map rowV) ∧ ∀ y ∈ ys, W.ownsRow base 2 1 (rowV y) y.2.2.length (y.2.2.map (Value.int .i64)) ∧ Rise y.2.2 M ∧ 1 ≤ y.2.2.length

theorem Rows2.put {W : World} {base M b o : Nat} {v u : Value} {ys : List RowH} (h : Rows2 W base M v ys) (hb : b < base) : Rows2 (W.setCell ⟨b, o, none⟩ u) base M v ys :=
  ⟨ownsRow_setCell_below h.1 (a := ⟨b, o, none⟩) hb u, fun y hy => ⟨ownsRow_setCell_below (h.2 y hy).1 (a := ⟨b, o, none⟩) hb u, (h.2 y hy).2⟩⟩
theorem Rows2.base {W : World} {base base' M : Nat} {v : Value} {ys : List RowH} (h : Rows2 W base M v ys) (hb : base' ≤ base) : Rows2 W base' M v ys :=
  ⟨own_base h.1 hb, fun y hy => ⟨own_base (h.2 y hy).1 hb, (h.2 y hy).2⟩⟩
theorem Rows2.gr {W W' : World} {base M z S : Nat} {v : Value} {ys : List RowH} (h : Rows2 W base M v ys) (hg : Gr z S W W') (hz : W.heap.size ≤ z) (hS : S < base) : Rows2 W' base M v ys :=
  ⟨own_gr h.1 hg hz hS, fun y hy => ⟨own_gr (h.2 y hy).1 hg hz hS, (h.2 y hy).2⟩⟩
theorem Rows2.below {W W' : World} {base M : Nat} {v : Value} {ys : List RowH} (h : Rows2 W base M v ys) (hb : Below W.heap.size W W') : Rows2 W' base M v ys :=
  ⟨own_below h.1 hb (Nat.le_refl _), fun y hy => ⟨own_below (h.2 y hy).1 hb (Nat.le_refl _), (h.2 y hy).2⟩⟩
theorem rows2_app {w W w10 : World} {G S n cap m M D Rb : Nat} {A : Option Addr} {a v v' : Value} {cs : Array Value} {ys : List RowH} {r : RowH} {lit : Go.Obj} (hG : Obj W G 26 #[a, v]) (hR : Rows2 W (G + 1) M v ys) (hr : W.ownsRow (G + 1) 2 1 (rowV r) r.2.2.length (r.2.2.map (Value.int .i64))) (hri : Rise r.2.2 M) (h1 : 1 ≤ r.2.2.length)
    (hS : Src W S A n cap m) (hSG : S < G) (hRb : Obj W Rb 26 cs) (hRbG : Rb < G) (hb : Below D w W) (hD : D ≤ G) (hGW : G + 1 ≤ W.heap.size) (ho : Ow w10 (G + 1) 43 v' (ys.map rowV ++ [rowV r])) (hg : (W.alloc lit).grownBy w10 v.ownBlock) :
    Obj w10 G 26 #[a, v] ∧ Obj (w10.setCell ⟨G, 1, none⟩ v') G 26 #[a, v'] ∧ Rows2 (w10.setCell ⟨G, 1, none⟩ v') (G + 1) M v' (ys ++ [r]) ∧ Obj (w10.setCell ⟨G, 1, none⟩ v') Rb 26 cs ∧ Src (w10.setCell ⟨G, 1, none⟩ v') S A n cap m ∧ Below D w (w10.setCell ⟨G, 1, none⟩ v') ∧ G + 1 ≤ (w10.setCell ⟨G, 1, none⟩ v').heap.size := by
  have hal : Below W.heap.size W (W.alloc lit) := (Below.refl _ _).alloc (Nat.le_refl _) _
  have hR1 := hR.below hal
  have hr1 := own_below hr hal (Nat.le_refl _)
  have hnr := fun (B : Nat) (cs : Array Value) (h : Obj (W.alloc lit) B 26 cs) => h.kept hg (Obj.not_row h (by decide) hR1.1)
  have hG10 := hnr G _ (hG.alloc lit)
  have hrow : ∀ y : RowH, (W.alloc lit).ownsRow (G + 1) 2 1 (rowV y) y.2.2.length (y.2.2.map (Value.int .i64)) → w10.ownsRow (G + 1) 2 1 (rowV y) y.2.2.length (y.2.2.map (Value.int .i64)) := fun y hy => World.ownsRow.kept hy hg (own_types hy hR1.1 (by decide))
  have hS10 : Src w10 S A n cap m := (hS.kept (World.grownBy_alloc W lit none) (by simp)).kept hg (by
    rcases own_ne hR1.1 (S := S) (by omega) with h | h
    · rw [h]; simp
    · exact h)
  have hb10 : Below D w w10 := (hb.alloc (by omega) lit).grown hg (by simp; omega) (fun k hk => by have := (World.ownsRow.lt hR1.1 k hk).1; omega)
  refine ⟨hG10, by simpa using hG10.set 1 v', ?_, (hnr Rb _ (hRb.alloc lit)).far (by omega) 1 v', hS10.kept (grownBy_set w10 G 1 v') (by simp; omega), below_put hb10 hD 1 v', ?_⟩
  · refine ⟨ownsRow_setCell_below (by rw [List.map_append]; exact ho) (a := ⟨G, 1, none⟩) (by simp) v', fun y hy => ?_⟩
    rcases List.mem_append.1 hy with hy | hy
    · exact ⟨ownsRow_setCell_below (hrow y (hR1.2 y hy).1) (a := ⟨G, 1, none⟩) (by simp) v', (hR1.2 y hy).2⟩
    · obtain rfl := List.mem_singleton.1 hy
      exact ⟨ownsRow_setCell_below (hrow y hr1) (a := ⟨G, 1, none⟩) (by simp) v', hri, h1⟩
  · have := hg.size
    simp at this ⊢
    omega

set_option maxRecDepth 100000 in
set_option maxHeartbeats 4000000 in
theorem B10Graph_c (w : World) (A : Option Addr) (n cap : Nat) (c : List Int) (hl : c.length = n) (hn : n ≤ 1048576) (hb : ∀ x ∈ c, 0 ≤ x ∧ x ≤ 255) (hx : Sl w w.heap.size A (c.map (Value.int .u8))) :
    Calls Try.prog 5 #[.slice A n cap] w fun e w' => ∃ (M : Nat) (v : Value) (ys : List RowH), e = .returned (.agg #[.int .i64 (M : Int), v]) ∧ 1 ≤ M ∧ M ≤ 8 ∧ 1 ≤ ys.length ∧ ys.length ≤ 5 ∧ Rows2 w' w.heap.size M v ys ∧ Below w.heap.size w w' := by
  have HX := Lib.hid hx
  have HB := Lib.hid hb
  clear hx hb
  go_enter Try.func5, Try.ntmps5
  go_wp2_with fail
  obtain ⟨w1, ew1⟩ : ∃ q : World, q = w.alloc (.cells #[.int .i64 0, .slice none 0 0] 26) := ⟨_, rfl⟩
  rw [← ew1]
  have hR1 : Obj w1 w.heap.size 26 #[.int .i64 0, .slice none 0 0] := by rw [ew1]; exact Obj.new _ _ _
  have hb1 : Below w.heap.size w w1 := by rw [ew1]; exact (Below.refl _ _).alloc (Nat.le_refl _) _
  have hz1 : w1.heap.size = w.heap.size + 1 := by rw [ew1]; simp
  clear ew1
  refine (l00From_c w1 A n cap).mono ?_
  rintro e w2 ⟨rfl, hs2, hb2, hz2⟩
  rw [hz1] at hs2 hb2 hz2 ⊢
  have hx2 := HX.out.below (hb1.trans (hb2.mono (by omega)))
  have hpk := pick_c w2 (w.heap.size + 1) w.heap.size A n cap 0 c hl hn HB.out hx2 (by omega) (by decide) hs2 8 (by decide) (by decide)
  have HPK := Lib.hid hpk
  have hR2 := hR1.below hb2 (by omega)
  have HB2 := Lib.hid (hb1.trans (hb2.mono (show w.heap.size ≤ w.heap.size + 1 by omega)))
  clear hpk hs2 hx2 hb2 hb1 hR1
  obtain ⟨S, hS⟩ : ∃ S, w.heap.size + 1 = S := ⟨_, rfl⟩
  rw [hS] at HPK hz2 ⊢
  go_wp2_with fail
  refine HPK.out.mono ?_
  rintro e w3 ⟨x, rfl, hx0, hx8, hs3, hg3⟩
  obtain ⟨M, hM⟩ : ∃ M : Nat, 1 + x = (M : Int) := ⟨(1 + x).toNat, by omega⟩
  have hM1 : 1 ≤ M := by omega
  have hM8 : M ≤ 8 := by omega
  have hR3 := hR2.kept hg3 (by simp; omega)
  have hz3 := hg3.size
  have HB3 := Lib.hid (HB2.out.grown hg3 (by omega) (fun k hk => by cases hk; omega))
  have HS3 := Lib.hid hs3
  clear HPK HB2 hs3 hg3 hR2
  go_wp2_with fail
  obtain ⟨G, hG⟩ : ∃ G, w3.heap.size = G := ⟨_, rfl⟩
  rw [hG]
  obtain ⟨w4, ew4⟩ : ∃ q : World, q = w3.alloc (.cells #[.int .i64 (M : Int), .slice none 0 0] 26) := ⟨_, rfl⟩
  rw [← ew4]
  have hG4 : Obj w4 G 26 #[.int .i64 (M : Int), .slice none 0 0] := by rw [ew4, ← hG]; exact Obj.new _ _ _
  have hz4 : w4.heap.size = G + 1 := by rw [ew4]; simp [hG]
  have hR4 : Obj w4 w.heap.size 26 #[.int .i64 0, .slice none 0 0] := by rw [ew4]; exact hR3.alloc _
  have hs4 : Src w4 S A n cap 1 := by rw [ew4]; exact HS3.out.kept (World.grownBy_alloc w3 _ none) (by simp)
  have hb4 : Below w.heap.size w w4 := by rw [ew4]; exact HB3.out.alloc (by omega) _
  have hSG : S < G := by have := HS3.out.lt; omega
  have hpk := pick_c w4 S w.heap.size A n cap 1 c hl hn HB.out (HX.out.below hb4) (by omega) (by decide) hs4 5 (by decide) (by decide)
  have HPK := Lib.hid hpk
  have HB4 := Lib.hid hb4
  clear hpk hb4 hs4 ew4 hR3 HS3 HB3
  refine HPK.out.mono ?_
  rintro e w5 ⟨x2, rfl, hx20, hx25, hs5, hg5⟩
  obtain ⟨N, hN⟩ : ∃ N : Nat, 1 + x2 = (N : Int) := ⟨(1 + x2).toNat, by omega⟩
  have hN1 : 1 ≤ N := by omega
  have hN5 : N ≤ 5 := by omega
  have hR5 := hR4.kept hg5 (by simp; omega)
  have hG5 := hG4.kept hg5 (by simp; omega)
  have hz5 : G + 1 ≤ w5.heap.size := by have := hg5.size; omega
  have HB5 := Lib.hid (HB4.out.grown hg5 (by omega) (fun k hk => by cases hk; omega))
  have HS5 := Lib.hid hs5
  clear HPK HB4 hs5 hg5 hR4 hG4 hz1 hz2 hz3 hG hz4
  have hwS : w.heap.size < S := by omega
  clear hS
  go_wp2_with fail
  go_loopw [5] (fun i wr => ∃ (k : Nat) (v : Value) (ys : List RowH), i = .int .i64 (k : Int) ∧ ys.length + k = N ∧ Obj wr G 26 #[.int .i64 (M : Int), v] ∧ Hid (Rows2 wr (G + 1) M v ys) ∧ Obj wr w.heap.size 26 #[.int .i64 0, .slice none 0 0] ∧ Hid (Src wr S A n cap (2 + 10 * ys.length)) ∧ Hid (Below w.heap.size w wr) ∧ G + 1 ≤ wr.heap.size) (fun i _ => (intOf i).toNat)
  case atStart => exact ⟨N, _, [], rfl, by simp, hG5, Lib.hid ⟨own_nil0 _ _ _, by simp⟩, hR5, HS5, HB5, hz5⟩
  case round =>
    clear hG5 hR5 HS5 HB5 hz5
    obtain ⟨k, v, ys, rfl, hlen, hG, HR, hR, HS, HBw, hz⟩ := hrel
    obtain ⟨w6, rfl⟩ : ∃ w6 : World, w6 = wr := ⟨_, rfl⟩
    obtain ⟨⟨g0, g1⟩, g2, g3⟩ := hG.two
    have hwz := hR.lt
    obtain ⟨V, kv, rfl, hpv⟩ := HR.out.1.opn
    clear hpv
    by_cases hk0 : k = 0
    · subst hk0
      obtain ⟨⟨q0, q1⟩, q2, q3⟩ := hR.two
      have hgz := hG.lt
      go_wp2_with fail
      refine bodyPost_ret (v := .agg #[.int .i64 (M : Int), .slice V ys.length kv]) (by unfold results; rw [Try.results5]; go_simp) rfl ?_
      have hput := (((HR.out.put (b := w.heap.size) (o := 0) (u := .int .i64 (M : Int)) (by omega)).put (b := w.heap.size) (o := 1) (u := .slice V ys.length kv) (by omega)).base (show w.heap.size ≤ G + 1 by omega))
      exact ⟨M, _, ys, rfl, hM1, hM8, by omega, by omega, hput, below_put (below_put HBw.out (Nat.le_refl _) 0 _) (Nat.le_refl _) 1 _⟩
    · have HG := Lib.hid hG
      have HRb := Lib.hid hR
      clear hG hR
      have hk1 : decide ((k : Int) > 0) = true := decide_eq_true (by omega)
      have hk2 : decide (0 < k) = true := decide_eq_true (by omega)
      have hsz := HS.out.lt
      have hgz := HG.out.lt
      go_wp2_with fail
      have ho0 := own_empty w6 w6.heap.size 2 (Nat.le_refl _)
      have hgr0 : Gr w6.heap.size S w6 (w6.alloc (.cells #[] 2)) := Gr.of_below ((Below.refl _ _).alloc (Nat.le_refl _) _) (Nat.le_refl _)
      have hs0 : Src (w6.alloc (.cells #[] 2)) S A n cap (2 + 10 * ys.length + 0) := HS.out.kept (World.grownBy_alloc w6 _ none) (by simp)
      have HGR0 := Lib.hid hgr0
      have HS0 := Lib.hid hs0
      clear hgr0 hs0
      go_loopw [6, 7] (fun u i wr => ∃ (q : Nat) (l : List Int), q ≤ M ∧ i = .int .i64 (q : Int) ∧ Ow wr w6.heap.size 2 u (l.map (Value.int .i64)) ∧ Hid (Rise l q) ∧ Hid (Src wr S A n cap (2 + 10 * ys.length + q)) ∧ Hid (Gr w6.heap.size S w6 wr)) (fun _ i _ => M - (intOf i).toNat)
      case atStart => exact ⟨0, [], Nat.zero_le _, rfl, ho0, Lib.hid (Rise.nil 0), HS0, HGR0⟩
      case round =>
        clear ho0 HGR0 HS0
        obtain ⟨q, l, hq, rfl, ho, HRI, HS7, HGR⟩ := hrel
        obtain ⟨w7, rfl⟩ : ∃ w7 : World, w7 = wr := ⟨_, rfl⟩
        have hz7 := HGR.out.size
        have r0 : w7.cell? ⟨G, 0, none⟩ = some (.int .i64 (M : Int)) := ((HG.out.gr HGR.out (by omega) (by omega)).two).1.1
        by_cases hqM : q < M
        · have hx7 := sl_gr (HX.out.below HBw.out) HGR.out (by omega) (by omega)
          have hon := one3_c w7 S w.heap.size A n cap (2 + 10 * ys.length + q) c hl hn HB.out hx7 (by omega) (by omega) HS7.out
          have HON := Lib.hid hon
          have HO7 := Lib.hid ho
          clear hon ho hx7
          have hS7 := HS7.out.lt
          go_wp2_with fail
          refine HON.out.mono ?_
          rintro e w8 ⟨x, rfl, hs8, hg8⟩
          have hz8 := hg8.size
          have hb8 := HGR.out.trans (Gr.of_grown hg8 hz7)
          have ho8 := HO7.out.kept hg8 (own_ne HO7.out hsz)
          have HS8 := Lib.hid hs8
          have HGR8 := Lib.hid hb8
          clear hs8 hg8 hb8 r0 HON
          cases x
          · go_wp2_with fail
            go_roundw
            case rel => exact ⟨q + 1, l, hqM, by go_num, ho8, Lib.hid HRI.out.more, HS8, HGR8⟩
            case measure => simp [intOf]; omega
          · have hlen2 : (l.map (Value.int .i64)).length + 1 ≤ 1099511627776 := by rw [List.length_map]; have := HRI.out.2.2; omega
            go_wp2_with (at_builtin; go_must (refine app1 Try.underlying43 infoInt64 rfl (by decide) rfl _ _ rfl _ _ _ rfl (ho8.alloc _) _ _ _ rfl (cell_new1 _ _ _) rfl hlen2 (by simp; omega) ?_); intro v' w9 ho9 hb9)
            go_roundw
            case rel =>
              have hba := (Below.refl w6.heap.size w8).alloc (by omega) (.cells #[.int .i64 (q : Int)] 2)
              have hbb := hba.trans hb9
              exact ⟨q + 1, l ++ [(q : Int)], hqM, by go_num, by rw [List.map_append]; exact ho9, Lib.hid HRI.out.snoc, Lib.hid (HS8.out.below hbb (by omega)), Lib.hid (HGR8.out.trans (Gr.of_below hbb (Nat.le_refl _)))⟩
            case measure => simp [intOf]; omega
        · have hqe : q = M := by omega
          subst hqe
          have HO7 := Lib.hid ho
          have hsz7 := HS7.out.lt
          have hgz7 : G < w7.heap.size := by omega
          obtain ⟨U, ku, rfl, hpu⟩ := ho.opn
          clear ho
          have hG7 := HG.out.gr HGR.out (by omega) (by omega)
          have hR7 := HR.out.gr HGR.out (Nat.le_refl _) (by omega)
          have hRb7 := HRb.out.gr HGR.out (by omega) (by omega)
          have hb7 : Below w.heap.size w w7 := below_gr HBw.out HGR.out (by omega) (by omega)
          obtain ⟨v, hv⟩ : ∃ v : Value, v = .slice V ys.length kv := ⟨_, rfl⟩
          rw [← hv] at hG7 hR7
          have hlen3 : (ys.map rowV).length + 1 ≤ 1099511627776 := by rw [List.length_map]; omega
          cases l with
          | nil =>
            have hpk := pick_c w7 S w.heap.size A n cap (2 + 10 * ys.length + q) c hl hn HB.out (HX.out.below hb7) (by omega) (by omega) HS7.out (q : Int) (by omega) (by omega)
            have HPK := Lib.hid hpk
            have HO7' := Lib.hid (show Ow w7 w6.heap.size 2 (.slice U 0 ku) [] from HO7.out)
            clear hpk hG7 hR7 hRb7 hb7
            go_wp2_with fail
            refine HPK.out.mono ?_
            rintro e w8 ⟨x3, rfl, hx30, hx31, hs8, hg8⟩
            have hz8 := hg8.size
            have ho8 := HO7'.out.kept hg8 (own_ne HO7'.out hsz)
            have HGR8 := Lib.hid (HGR.out.trans (Gr.of_grown hg8 hz7))
            have HS8 := Lib.hid (hs8.more (show 2 + 10 * ys.length + q + 1 ≤ 2 + 10 * (ys.length + 1) by omega))
            obtain ⟨X3, hX3⟩ : ∃ X3 : Nat, x3 = (X3 : Int) := ⟨x3.toNat, by omega⟩
            have HRI3 := Lib.hid (Rise.one hx30 hx31)
            have HV := Lib.hid hv
            clear hs8 hg8 HPK hv hX3 X3
            have HA := Lib.hid (fun (w9 : World) (U9 : Option Addr) (k9 : Nat) (hg9 : Gr w6.heap.size S w6 w9) (hs9 : Src w9 S A n cap (2 + 10 * (ys.length + 1))) (hp9 : w9.ownsRow w6.heap.size 2 1 (rowV (U9, k9, [x3])) 1 (([x3] : List Int).map (Value.int .i64))) (w10 : World) (v' : Value) (ho : Ow w10 (G + 1) 43 v' (ys.map rowV ++ [rowV (U9, k9, [x3])])) (hg : (w9.alloc (.cells #[.slice U9 1 k9] 43)).grownBy w10 (Value.slice V ys.length kv).ownBlock) =>
              rows2_app (w := w) (D := w.heap.size) (HG.out.gr hg9 (by omega) (by omega)) (HR.out.gr hg9 (Nat.le_refl _) (by omega)) (r := (U9, k9, [x3])) (own_base hp9 (by omega)) HRI3.out (Nat.le_refl _) hs9 hSG (HRb.out.gr hg9 (by omega) (by omega)) (by omega) (below_gr HBw.out hg9 (by omega) (by omega)) (by omega) (by have := hg9.size; omega) ho hg)
            go_wp2_with (first
              | (at_builtin; refine app1 Try.underlying43 infoInt64 rfl (by decide) rfl _ _ rfl _ _ _ rfl (ho8.alloc _) _ _ _ rfl (cell_new1 _ _ _) rfl (by decide) (by simp; omega) ?_; intro v9 w9 ho9 hb9; have hbb9 := ((Below.refl w6.heap.size w8).alloc (by omega) (.cells #[.int .i64 x3] 2)).trans hb9; have hg9 := HGR8.out.trans (Gr.of_below hbb9 (Nat.le_refl _)); have HS9 := Lib.hid (HS8.out.below hbb9 (by omega)); have hG9 := HG.out.gr hg9 (by omega) (by omega); have y0 := hG9.two.1.2; have y1 := hG9.two.2.2; have hR9 := (HR.out.gr hg9 (Nat.le_refl _) (show S < G + 1 by omega)).1; have HR9 := Lib.hid hR9; have HG9 := Lib.hid hg9; have hz9 := hg9.size; obtain ⟨U9, k9, rfl, hp9⟩ := (show Ow w9 w6.heap.size 2 v9 (([x3] : List Int).map (Value.int .i64)) from ho9).opn; have HP9 := Lib.hid hp9; have hsl1 : ([x3] : List Int).length = 1 := rfl; clear hbb9 hg9 hG9 hR9 hp9 ho9 hb9)
              | (at_builtin; go_must (refine appO Try.underlying24 infoI64s rfl (by decide) rfl _ _ rfl _ _ _ rfl (HR9.out.alloc _) _ _ (.slice U9 1 k9) rfl (cell_new1 _ _ _) rfl hlen3 (by simp; omega) ?_); intro v' w10 ho10 hg10; have hA := HA.out w9 U9 k9 HG9.out HS9.out HP9.out w10 v' ho10 hg10; obtain ⟨V10, k10, hv10, _⟩ := hA.2.2.1.1.opn; subst hv10; have y2 := hA.1.two.1.2; have y3 := hA.1.two.2.2; rw [List.length_append, List.length_singleton] at hA; have HAA := Lib.hid hA; clear hA))
            obtain ⟨a1, a2, a3, a4, a5, a6, a7⟩ := HAA.out
            go_roundw
            case rel => exact ⟨k - 1, _, ys ++ [(U9, k9, [x3])], by go_num, by simp; omega, a2, Lib.hid a3, a4, Lib.hid (by rw [List.length_append]; exact a5), Lib.hid a6, a7⟩
            case measure => simp [intOf]; omega
          | cons a l =>
            have hl1 : 1 ≤ (a :: l).length := by simp
            obtain ⟨L, hL⟩ : ∃ L, a :: l = L := ⟨_, rfl⟩
            rw [hL] at hpu hl1 HRI ⊢
            clear hL
            obtain ⟨LN, hLN⟩ : ∃ LN, L.length = LN := ⟨_, rfl⟩
            have y0 := hG7.two.1.2
            rw [hv] at y0
            have y1 := hG7.two.2.2
            have HA := Lib.hid (fun (w10 : World) (v' : Value) (ho : Ow w10 (G + 1) 43 v' (ys.map rowV ++ [rowV (U, ku, L)])) (hg : (w7.alloc (.cells #[.slice U LN ku] 43)).grownBy w10 v.ownBlock) => rows2_app (w := w) (D := w.heap.size) hG7 hR7 (r := (U, ku, L)) (own_base hpu (by omega)) HRI.out hl1 (HS7.out.more (show 2 + 10 * ys.length + q ≤ 2 + 10 * (ys.length + 1) by omega)) hSG hRb7 (by omega) hb7 (by omega) (by omega) ho hg)
            have HR7 := Lib.hid hR7
            rw [hv] at HA HR7
            clear hv
            have HRV := Lib.hid (show Value.slice U LN ku = rowV (U, ku, L) by simp [rowV, hLN])
            rw [hLN] at hl1 ⊢
            have HLN := Lib.hid hLN
            clear hG7 hR7 hRb7 hb7 hpu hLN
            go_wp2_with (at_builtin; go_must (refine appO Try.underlying24 infoI64s rfl (by decide) rfl _ _ rfl _ _ _ rfl (HR7.out.1.alloc _) _ _ (.slice U LN ku) rfl (cell_new1 _ _ _) rfl hlen3 (by simp; omega) ?_); intro v' w10 ho10 hg10; rw [HRV.out] at ho10; have hA := HA.out w10 v' ho10 hg10; obtain ⟨V10, k10, hv10, _⟩ := hA.2.2.1.1.opn; subst hv10; have y2 := hA.1.two.1.2; have y3 := hA.1.two.2.2; rw [List.length_append, List.length_singleton] at hA; have HAA := Lib.hid hA; clear hA)
            obtain ⟨a1, a2, a3, a4, a5, a6, a7⟩ := HAA.out
            go_roundw
            case rel => exact ⟨k - 1, _, ys ++ [(U, ku, L)], by go_num, by simp; omega, a2, Lib.hid a3, a4, Lib.hid (by rw [List.length_append]; exact a5), Lib.hid a6, a7⟩
            case measure => simp [intOf]; omega


def qtW (x : Int) : Nat := vop .quo (floatOfInt .f32 (x - 16)) 1082130432
theorem qt_all : ∀ k : Nat, k < 33 → floatBits .quo .f32 (floatOfInt .f32 ((k : Int) - 16)) 1082130432 = some (qtW (k : Int)) ∧ qtW (k : Int) % 2147483648 < (10 + 127) * 8388608 := by decide +kernel
theorem qt_ok {x : Int} (h0 : 0 ≤ x) (h1 : x < 33) : floatBits .quo .f32 (floatOfInt .f32 (x - 16)) 1082130432 = some (qtW x) ∧ Low 10 (qtW x) := by
  obtain ⟨k, rfl⟩ : ∃ k : Nat, x = (k : Int) := ⟨x.toNat, by omega⟩
  exact qt_all k (by omega)

set_option maxRecDepth 100000 in
set_option maxHeartbeats 1000000 in
theorem B10Soft_c (w : World) (A : Option Addr) (n cap : Nat) (c : List Int) (hl : c.length = n) (hn : n ≤ 1048576) (hb : ∀ x ∈ c, 0 ≤ x ∧ x ≤ 255) (hx : Sl w w.heap.size A (c.map (Value.int .u8))) (q : Nat) (hq : q ≤ 64) :
    Calls Try.prog 7 #[.slice A n cap, .int .i64 (q : Int)] w fun e w' => ∃ (v : Value) (xs : List Nat), e = .returned v ∧ xs.length = q ∧ (∀ x ∈ xs, Low 10 x) ∧ Ow w' w.heap.size 46 v (xs.map (Value.float .f32)) ∧ Below w.heap.size w w' := by
  have HX := Lib.hid hx
  have HB := Lib.hid hb
  clear hx hb
  go_enter Try.func7, Try.ntmps7
  go_wp2_with fail
  refine (l00From_c w A n cap).mono ?_
  rintro e w1 ⟨rfl, hs, hb1, hz1⟩
  have HS := Lib.hid hs
  have HB1 := Lib.hid hb1
  obtain ⟨S, hS⟩ : ∃ S, w.heap.size = S := ⟨_, rfl⟩
  rw [hS] at HS HB1 hz1 HX ⊢
  clear hs hb1
  go_wp2_with fail
  have hs0 : Src (w1.alloc (.cells #[] 46)) S A n cap 0 := HS.out.kept (World.grownBy_alloc w1 _ none) (by simp)
  have hb0 : Below S w (w1.alloc (.cells #[] 46)) := HB1.out.alloc (by omega) _
  have ho0 : Ow (w1.alloc (.cells #[] 46)) (S + 1) 46 (.slice (some ⟨S + 1, 0, none⟩) 0 0) (([] : List Nat).map (Value.float .f32)) := by
    have h := own_empty w1 w1.heap.size 46 (Nat.le_refl _)
    rw [hz1] at h
    exact h
  go_loopw [1, 6] (fun i v wr => ∃ (k : Nat) (xs : List Nat), k ≤ q ∧ i = .int .i64 (k : Int) ∧ xs.length + k = q ∧ (∀ x ∈ xs, Low 10 x) ∧ Ow wr (S + 1) 46 v (xs.map (Value.float .f32)) ∧ Hid (Src wr S A n cap (0 + xs.length)) ∧ Hid (Below S w wr) ∧ S + 1 ≤ wr.heap.size) (fun i _ _ => (intOf i).toNat)
  case atStart => exact ⟨q, [], Nat.le_refl _, rfl, by simp, by simp, ho0, Lib.hid hs0, Lib.hid hb0, by simp; omega⟩
  case round =>
    clear hs0 hb0 ho0
    obtain ⟨k, xs, hk, rfl, hlen, hlow, ho, HS2, HB2, hz2⟩ := hrel
    obtain ⟨w2, rfl⟩ : ∃ w2 : World, w2 = wr := ⟨_, rfl⟩
    by_cases hk0 : k = 0
    · subst hk0
      have hz : Value.int .i64 ((0 : Nat) : Int) = .int .i64 0 := rfl
      rw [hz]
      go_wp2
      go_ret
      exact ⟨_, xs, rfl, by omega, hlow, own_base ho (by rw [hS]; omega), by rw [hS]; exact HB2.out⟩
    · have hpk := pick_c w2 S S A n cap (0 + xs.length) c hl hn HB.out (HX.out.below HB2.out) (Nat.le_refl _) (by omega) HS2.out 33 (by decide) (by decide)
      have HPK := Lib.hid hpk
      have HO := Lib.hid ho
      have HLW := Lib.hid hlow
      have hlen2 : (xs.map (Value.float .f32)).length + 1 ≤ 1099511627776 := by rw [List.length_map]; omega
      clear hpk ho hlow
      go_wp2_with fail
      refine HPK.out.mono ?_
      rintro e w3 ⟨x, rfl, hx0, hx1, hs3, hg3⟩
      obtain ⟨f0, hlw⟩ := qt_ok hx0 hx1
      have f1 := fun t d => fres_vop f0 t d
      have f2 : fdr .quo .f32 (floatOfInt .f32 (x - 16)) 1082130432 = 0 := by simp [fdr, f0]
      have hz3 := hg3.size
      have ho3 := HO.out.kept hg3 (own_ne HO.out (Nat.lt_succ_self _))
      have HS3 := Lib.hid hs3
      have HB3 := Lib.hid (HB2.out.grown hg3 (by omega) (fun k hk => by cases hk; exact Nat.le_refl _))
      clear hs3 hg3 HPK f0
      go_wp2_with (at_builtin; go_must (refine app1 Try.underlying30 infoFloat32 rfl (by decide) rfl _ _ rfl _ _ _ rfl (own_dalloc' ho3 _) _ _ _ rfl (cell_new1 _ _ _) rfl hlen2 (by simp; omega) ?_); intro v' w4 ho4 hb4)
      go_roundw
      case rel =>
        have hbb := ((below_of_drewN (S + 1) w3 0).alloc (show S + 1 ≤ w3.heap.size from Nat.le_trans hz2 hz3) (.cells #[.float .f32 (vop BinOp.quo (floatOfInt FloatKind.f32 (x - 16)) 1082130432)] 46)).trans hb4
        have hz4 : S + 1 ≤ w4.heap.size := Nat.le_trans hz2 (Nat.le_trans hz3 hbb.size)
        refine ⟨k - 1, xs ++ [qtW x], by omega, by go_num, by rw [List.length_append]; simp; omega, ?_, by rw [List.map_append]; exact ho4, Lib.hid ?_, Lib.hid (HB3.out.trans (hbb.mono (Nat.le_succ S))), hz4⟩
        · intro y hy
          rcases List.mem_append.1 hy with hy | hy
          · exact HLW.out y hy
          · obtain rfl := List.mem_singleton.1 hy
            exact hlw
        · rw [List.length_append]
          exact HS3.out.below hbb (Nat.lt_succ_self _)
      case measure => simp [intOf]; omega

end Go.Proofs.Ytepdjehbgkfjhaa
