/-
  Contracts: graphs, struct values of a number and rows of rows.
  Conditions: lengths at most 1048576 where a graph is copied.
-/
import Derived.Test.YtpdblaldndmdoaaNN
namespace Go.Proofs.Ytpdblaldndmdoaa
open Go.RowKit

set_option maxRecDepth 100000 in
set_option maxHeartbeats 400000 in
theorem toGraph_c (w : World) (m : Int) (A : Option Addr) (n cap : Nat) (rs : List RowH) (hl : rs.length = n) (hn : n ≤ 1048576) (hr : ∀ r ∈ rs, r.2.2.length ≤ 1048576) (hx : Sl2 w w.heap.size A rs) :
    Calls Try.prog 13 #[.agg #[.int .i64 m, .slice A n cap]] w fun e w' => ∃ v ys, e = .returned (.agg #[.int .i64 m, v]) ∧ dat ys = dat rs ∧ (∀ y ∈ ys, w'.ownsRow w.heap.size 2 1 (rowV y) y.2.2.length (y.2.2.map (Value.int .i64))) ∧ Ow w' w.heap.size 36 v (ys.map rowV) ∧ Below w.heap.size w w' := by
  go_enter Try.func13, Try.ntmps13
  go_wp2_with fail
  refine (toInt64SS_c _ A n cap rs hl hn hr ((((hx.alloc (Nat.le_refl _) _).alloc (by simp) _).alloc (by simp; omega) _).more (by simp; omega))).mono ?_
  rintro e w1 ⟨v, ys, rfl, hd, hin, ho, hb⟩
  obtain ⟨S, k, rfl, hp⟩ := ho.opn
  have hyl : ys.length = n := by rw [rows_len hd, hl]
  rw [hyl] at hp
  rw [hyl]
  have hz := hb.size
  simp at hz
  have h0 : w1.cell? ⟨w.heap.size + 1 + 1, 0, none⟩ = some (.int .i64 m) := (hb.cell (by simp)).trans (by (first | (simp; done) | (simp (disch := (first | (simp; done) | (simp; omega))) [World.cell?_alloc_at]; done) | (simp (disch := (first | (simp; done) | (simp; omega))) [World.cell?_alloc_past]; done) | (simp (disch := (first | (simp; done) | (simp; omega))) [World.cell?_alloc_at, World.cell?_alloc_past]; done) | (simp (disch := (first | (simp; done) | (simp; omega))) [World.frozen?_alloc_at]; done) | (simp (disch := (first | (simp; done) | (simp; omega))) [World.frozen?_alloc_past]; done) | (simp (disch := (first | (simp; done) | (simp; omega))) [World.frozen?_alloc_at, World.frozen?_alloc_past]; done)))
  have h1 : w1.cell? ⟨w.heap.size + 1 + 1, 1, none⟩ = some (.slice none 0 0) := (hb.cell (by simp)).trans (by (first | (simp; done) | (simp (disch := (first | (simp; done) | (simp; omega))) [World.cell?_alloc_at]; done) | (simp (disch := (first | (simp; done) | (simp; omega))) [World.cell?_alloc_past]; done) | (simp (disch := (first | (simp; done) | (simp; omega))) [World.cell?_alloc_at, World.cell?_alloc_past]; done) | (simp (disch := (first | (simp; done) | (simp; omega))) [World.frozen?_alloc_at]; done) | (simp (disch := (first | (simp; done) | (simp; omega))) [World.frozen?_alloc_past]; done) | (simp (disch := (first | (simp; done) | (simp; omega))) [World.frozen?_alloc_at, World.frozen?_alloc_past]; done)))
  have h2 : w1.cell? ⟨w.heap.size + 1, 0, none⟩ = some (.int .i64 0) := (hb.cell (by simp)).trans (by (first | (simp; done) | (simp (disch := (first | (simp; done) | (simp; omega))) [World.cell?_alloc_at]; done) | (simp (disch := (first | (simp; done) | (simp; omega))) [World.cell?_alloc_past]; done) | (simp (disch := (first | (simp; done) | (simp; omega))) [World.cell?_alloc_at, World.cell?_alloc_past]; done) | (simp (disch := (first | (simp; done) | (simp; omega))) [World.frozen?_alloc_at]; done) | (simp (disch := (first | (simp; done) | (simp; omega))) [World.frozen?_alloc_past]; done) | (simp (disch := (first | (simp; done) | (simp; omega))) [World.frozen?_alloc_at, World.frozen?_alloc_past]; done)))
  have h3 : w1.cell? ⟨w.heap.size + 1, 1, none⟩ = some (.slice none 0 0) := (hb.cell (by simp)).trans (by (first | (simp; done) | (simp (disch := (first | (simp; done) | (simp; omega))) [World.cell?_alloc_at]; done) | (simp (disch := (first | (simp; done) | (simp; omega))) [World.cell?_alloc_past]; done) | (simp (disch := (first | (simp; done) | (simp; omega))) [World.cell?_alloc_at, World.cell?_alloc_past]; done) | (simp (disch := (first | (simp; done) | (simp; omega))) [World.frozen?_alloc_at]; done) | (simp (disch := (first | (simp; done) | (simp; omega))) [World.frozen?_alloc_past]; done) | (simp (disch := (first | (simp; done) | (simp; omega))) [World.frozen?_alloc_at, World.frozen?_alloc_past]; done)))
  have f1 : w1.frozen? ⟨w.heap.size + 1 + 1, 1, none⟩ = false := (hb.frozen (by simp)).trans (by (first | (simp; done) | (simp (disch := (first | (simp; done) | (simp; omega))) [World.cell?_alloc_at]; done) | (simp (disch := (first | (simp; done) | (simp; omega))) [World.cell?_alloc_past]; done) | (simp (disch := (first | (simp; done) | (simp; omega))) [World.cell?_alloc_at, World.cell?_alloc_past]; done) | (simp (disch := (first | (simp; done) | (simp; omega))) [World.frozen?_alloc_at]; done) | (simp (disch := (first | (simp; done) | (simp; omega))) [World.frozen?_alloc_past]; done) | (simp (disch := (first | (simp; done) | (simp; omega))) [World.frozen?_alloc_at, World.frozen?_alloc_past]; done)))
  have f2 : w1.frozen? ⟨w.heap.size + 1, 0, none⟩ = false := (hb.frozen (by simp)).trans (by (first | (simp; done) | (simp (disch := (first | (simp; done) | (simp; omega))) [World.cell?_alloc_at]; done) | (simp (disch := (first | (simp; done) | (simp; omega))) [World.cell?_alloc_past]; done) | (simp (disch := (first | (simp; done) | (simp; omega))) [World.cell?_alloc_at, World.cell?_alloc_past]; done) | (simp (disch := (first | (simp; done) | (simp; omega))) [World.frozen?_alloc_at]; done) | (simp (disch := (first | (simp; done) | (simp; omega))) [World.frozen?_alloc_past]; done) | (simp (disch := (first | (simp; done) | (simp; omega))) [World.frozen?_alloc_at, World.frozen?_alloc_past]; done)))
  have f3 : w1.frozen? ⟨w.heap.size + 1, 1, none⟩ = false := (hb.frozen (by simp)).trans (by (first | (simp; done) | (simp (disch := (first | (simp; done) | (simp; omega))) [World.cell?_alloc_at]; done) | (simp (disch := (first | (simp; done) | (simp; omega))) [World.cell?_alloc_past]; done) | (simp (disch := (first | (simp; done) | (simp; omega))) [World.cell?_alloc_at, World.cell?_alloc_past]; done) | (simp (disch := (first | (simp; done) | (simp; omega))) [World.frozen?_alloc_at]; done) | (simp (disch := (first | (simp; done) | (simp; omega))) [World.frozen?_alloc_past]; done) | (simp (disch := (first | (simp; done) | (simp; omega))) [World.frozen?_alloc_at, World.frozen?_alloc_past]; done)))
  have hb' := (((Below.refl w.heap.size w).alloc (Nat.le_refl _) (Obj.cells #[.int .i64 m, .slice A n cap] 24)).alloc (by simp) (Obj.cells #[.int .i64 0, .slice none 0 0] 27)).alloc (by simp; omega) (Obj.cells #[.int .i64 m, .slice none 0 0] 27)
  have hb2 := hb'.trans (hb.mono (by simp; omega))
  clear hb hb' hx
  go_wp2
  refine bodyPost_ret (v := .agg #[.int .i64 m, .slice S n k]) (by unfold results; rw [Try.results13]; go_simp) rfl ?_
  have hbase : w.heap.size ≤ (((w.alloc (Obj.cells #[.int .i64 m, .slice A n cap] 24)).alloc (Obj.cells #[.int .i64 0, .slice none 0 0] 27)).alloc (Obj.cells #[.int .i64 m, .slice none 0 0] 27)).heap.size := by simp; omega
  refine ⟨_, ys, rfl, hd, fun y hy => ?_, ?_, ?_⟩
  · exact own_base (ownsRow_setCell_below (ownsRow_setCell_below (ownsRow_setCell_below (hin y hy) (a := ⟨w.heap.size + 1 + 1, 1, none⟩) (by simp) (.slice S n k)) (a := ⟨w.heap.size + 1, 0, none⟩) (by simp) (.int .i64 m)) (a := ⟨w.heap.size + 1, 1, none⟩) (by simp) (.slice S n k)) hbase
  · have ho2 := ownsRow_setCell_below (ownsRow_setCell_below (ownsRow_setCell_below hp (a := ⟨w.heap.size + 1 + 1, 1, none⟩) (by simp) (.slice S n k)) (a := ⟨w.heap.size + 1, 0, none⟩) (by simp) (.int .i64 m)) (a := ⟨w.heap.size + 1, 1, none⟩) (by simp) (.slice S n k)
    unfold Ow
    rw [List.length_map, hyl]
    exact own_base ho2 hbase
  · exact ((hb2.setCell (p := ⟨w.heap.size + 1 + 1, 1, none⟩) (by simp; omega) _).setCell (p := ⟨w.heap.size + 1, 0, none⟩) (by simp) _).setCell (p := ⟨w.heap.size + 1, 1, none⟩) (by simp) _

set_option maxRecDepth 100000 in
theorem szGraph_c (w : World) (m : Int) (A : Option Addr) (n cap : Nat) (rs : List RowH) (left : Int) (h0 : 0 ≤ left) (h1 : left ≤ 1048576) (hl : rs.length = n) (hn : n ≤ 9223372036854775807) (hr : ∀ r ∈ rs, r.2.2.length ≤ 9223372036854775807) (hx : Sl2 w w.heap.size A rs) :
    Calls Try.prog 11 #[.agg #[.int .i64 m, .slice A n cap], .int .i64 left] w fun e w' => ∃ q : Int, e = .returned (.int .i64 q) ∧ (q = -1 ∨ (0 ≤ q ∧ q ≤ 1048576 ∧ n ≤ 1048576 ∧ ∀ r ∈ rs, r.2.2.length ≤ 1048576)) ∧ Below w.heap.size w w' := by
  go_enter Try.func11, Try.ntmps11
  go_wp2_with fail
  refine (szInt64SS_c _ _ A n cap rs left h0 h1 hl hn hr (hx.alloc (Nat.le_refl _) _)).mono ?_
  rintro e w' ⟨q, rfl, hq, rfl⟩
  have HQ := Lib.hid hq
  rcases hq with rfl | ⟨hq, hq1, _⟩
  all_goals
    go_wp2
    go_ret
    first
      | exact ⟨_, rfl, HQ.out, (Below.refl _ _).alloc (Nat.le_refl _) _⟩
      | exact ⟨_, rfl, .inl rfl, (Below.refl _ _).alloc (Nat.le_refl _) _⟩

set_option maxRecDepth 100000 in
theorem eqGraph_t (w : World) (m : Int) (A B : Option Addr) (n cap cap' : Nat) (rs ys : List RowH) (hd : dat rs = dat ys) (hl : rs.length = n) (hn : n ≤ 1048576) (hr : ∀ r ∈ rs, r.2.2.length ≤ 1048576) (hx : Sl2 w w.heap.size A rs) (hy : Sl2 w w.heap.size B ys) :
    Calls Try.prog 15 #[.agg #[.int .i64 m, .slice A n cap], .agg #[.int .i64 m, .slice B n cap']] w fun e w' => e = .returned (.bool true) ∧ Below w.heap.size w w' := by
  have he : (m == m) = true := by simp
  go_enter Try.func15, Try.ntmps15
  go_wp2_with (go_at_call 57; refine (eqInt64SS_t _ A B n cap cap' _ _ rs ys hd hl hn hr ((hx.alloc (Nat.le_refl _) _).alloc (by simp) _) ((hy.alloc (Nat.le_refl _) _).alloc (by simp) _)).mono ?_; rintro e w' ⟨rfl, q, rfl⟩)
  go_ret
  exact ⟨rfl, below_drewN (((Below.refl _ _).alloc (Nat.le_refl _) _).alloc (by simp) _) _⟩

end Go.Proofs.Ytpdblaldndmdoaa
