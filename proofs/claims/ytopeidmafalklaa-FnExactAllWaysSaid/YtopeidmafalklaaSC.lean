/-
  Contracts: coders, struct values of a number and a slice.
  Conditions: slices are read in memory that is there.
-/
import Derived.Test.YtopeidmafalklaaH
import Derived.Test.YtopeidmafalklaaCB
import Derived.Handy
import Derived.Deep.QuietTactic
import Derived.BigQuiet
namespace Go.Proofs.Ytopeidmafalklaa
open Go.RowKit

theorem below_undrew {a w : World} (h : Below a.drew.heap.size a.drew w) : Below a.heap.size a w := ⟨h.os, h.tape, h.output, h.size, h.block⟩
theorem below_undrewN {n : Nat} {a w : World} (h : Below (a.drewN n).heap.size (a.drewN n) w) : Below a.heap.size a w := ⟨h.os, h.tape, h.output, h.size, h.block⟩


set_option maxRecDepth 100000 in
set_option maxHeartbeats 400000 in
theorem toCoder_c (w : World) (m : Int) (A : Option Addr) (n cap : Nat) (xs : List Int) (hl : xs.length = n) (hn : n ≤ 1048576) (hx : Sl w w.heap.size A (xs.map (Value.int .i64))) :
    Calls Try.prog 7 #[.agg #[.int .i64 m, .slice A n cap]] w fun e w' => ∃ v, e = .returned (.agg #[.int .i64 m, v]) ∧ Ow w' w.heap.size 2 v (xs.map (Value.int .i64)) ∧ Below w.heap.size w w' := by
  go_enter Try.func7, Try.ntmps7
  go_wp2_with fail
  refine (toInt64S_c _ A n cap xs hl hn ((((hx.alloc (Nat.le_refl _) _).alloc (by simp) _).alloc (by simp; omega) _).more (by simp; omega))).mono ?_
  rintro e w1 ⟨v, rfl, ho, hb⟩
  obtain ⟨S, k, rfl, hp⟩ := ho.opn
  rw [hl] at hp
  rw [hl]
  have hz := hb.size
  simp at hz
  have h0 : w1.cell? ⟨w.heap.size + 1 + 1, 0, none⟩ = some (.int .i64 m) := (hb.cell (by simp)).trans (by (first | (simp; done) | (simp (disch := (first | (simp; done) | (simp; omega))) [World.cell?_alloc_at]; done) | (simp (disch := (first | (simp; done) | (simp; omega))) [World.cell?_alloc_past]; done) | (simp (disch := (first | (simp; done) | (simp; omega))) [World.cell?_alloc_at, World.cell?_alloc_past]; done) | (simp (disch := (first | (simp; done) | (simp; omega))) [World.frozen?_alloc_at]; done) | (simp (disch := (first | (simp; done) | (simp; omega))) [World.frozen?_alloc_past]; done) | (simp (disch := (first | (simp; done) | (simp; omega))) [World.frozen?_alloc_at, World.frozen?_alloc_past]; done)))
  have h1 : w1.cell? ⟨w.heap.size + 1 + 1, 1, none⟩ = some (.slice none 0 0) := (hb.cell (by simp)).trans (by (first | (simp; done) | (simp (disch := (first | (simp; done) | (simp; omega))) [World.cell?_alloc_at]; done) | (simp (disch := (first | (simp; done) | (simp; omega))) [World.cell?_alloc_past]; done) | (simp (disch := (first | (simp; done) | (simp; omega))) [World.cell?_alloc_at, World.cell?_alloc_past]; done) | (simp (disch := (first | (simp; done) | (simp; omega))) [World.frozen?_alloc_at]; done) | (simp (disch := (first | (simp; done) | (simp; omega))) [World.frozen?_alloc_past]; done) | (simp (disch := (first | (simp; done) | (simp; omega))) [World.frozen?_alloc_at, World.frozen?_alloc_past]; done)))
  have h2 : w1.cell? ⟨w.heap.size + 1, 0, none⟩ = some (.int .i64 0) := (hb.cell (by simp)).trans (by (first | (simp; done) | (simp (disch := (first | (simp; done) | (simp; omega))) [World.cell?_alloc_at]; done) | (simp (disch := (first | (simp; done) | (simp; omega))) [World.cell?_alloc_past]; done) | (simp (disch := (first | (simp; done) | (simp; omega))) [World.cell?_alloc_at, World.cell?_alloc_past]; done) | (simp (disch := (first | (simp; done) | (simp; omega))) [World.frozen?_alloc_at]; done) | (simp (disch := (first | (simp; done) | (simp; omega))) [World.frozen?_alloc_past]; done) | (simp (disch := (first | (simp; done) | (simp; omega))) [World.frozen?_alloc_at, World.frozen?_alloc_past]; done)))
  have h3 : w1.cell? ⟨w.heap.size + 1, 1, none⟩ = some (.slice none 0 0) := (hb.cell (by simp)).trans (by (first | (simp; done) | (simp (disch := (first | (simp; done) | (simp; omega))) [World.cell?_alloc_at]; done) | (simp (disch := (first | (simp; done) | (simp; omega))) [World.cell?_alloc_past]; done) | (simp (disch := (first | (simp; done) | (simp; omega))) [World.cell?_alloc_at, World.cell?_alloc_past]; done) | (simp (disch := (first | (simp; done) | (simp; omega))) [World.frozen?_alloc_at]; done) | (simp (disch := (first | (simp; done) | (simp; omega))) [World.frozen?_alloc_past]; done) | (simp (disch := (first | (simp; done) | (simp; omega))) [World.frozen?_alloc_at, World.frozen?_alloc_past]; done)))
  have f1 : w1.frozen? ⟨w.heap.size + 1 + 1, 1, none⟩ = false := (hb.frozen (by simp)).trans (by (first | (simp; done) | (simp (disch := (first | (simp; done) | (simp; omega))) [World.cell?_alloc_at]; done) | (simp (disch := (first | (simp; done) | (simp; omega))) [World.cell?_alloc_past]; done) | (simp (disch := (first | (simp; done) | (simp; omega))) [World.cell?_alloc_at, World.cell?_alloc_past]; done) | (simp (disch := (first | (simp; done) | (simp; omega))) [World.frozen?_alloc_at]; done) | (simp (disch := (first | (simp; done) | (simp; omega))) [World.frozen?_alloc_past]; done) | (simp (disch := (first | (simp; done) | (simp; omega))) [World.frozen?_alloc_at, World.frozen?_alloc_past]; done)))
  have f2 : w1.frozen? ⟨w.heap.size + 1, 0, none⟩ = false := (hb.frozen (by simp)).trans (by (first | (simp; done) | (simp (disch := (first | (simp; done) | (simp; omega))) [World.cell?_alloc_at]; done) | (simp (disch := (first | (simp; done) | (simp; omega))) [World.cell?_alloc_past]; done) | (simp (disch := (first | (simp; done) | (simp; omega))) [World.cell?_alloc_at, World.cell?_alloc_past]; done) | (simp (disch := (first | (simp; done) | (simp; omega))) [World.frozen?_alloc_at]; done) | (simp (disch := (first | (simp; done) | (simp; omega))) [World.frozen?_alloc_past]; done) | (simp (disch := (first | (simp; done) | (simp; omega))) [World.frozen?_alloc_at, World.frozen?_alloc_past]; done)))
  have f3 : w1.frozen? ⟨w.heap.size + 1, 1, none⟩ = false := (hb.frozen (by simp)).trans (by (first | (simp; done) | (simp (disch := (first | (simp; done) | (simp; omega))) [World.cell?_alloc_at]; done) | (simp (disch := (first | (simp; done) | (simp; omega))) [World.cell?_alloc_past]; done) | (simp (disch := (first | (simp; done) | (simp; omega))) [World.cell?_alloc_at, World.cell?_alloc_past]; done) | (simp (disch := (first | (simp; done) | (simp; omega))) [World.frozen?_alloc_at]; done) | (simp (disch := (first | (simp; done) | (simp; omega))) [World.frozen?_alloc_past]; done) | (simp (disch := (first | (simp; done) | (simp; omega))) [World.frozen?_alloc_at, World.frozen?_alloc_past]; done)))
  have hb' := (((Below.refl w.heap.size w).alloc (Nat.le_refl _) (Obj.cells #[.int .i64 m, .slice A n cap] 24)).alloc (by simp) (Obj.cells #[.int .i64 0, .slice none 0 0] 29)).alloc (by simp; omega) (Obj.cells #[.int .i64 m, .slice none 0 0] 29)
  have hb2 := hb'.trans (hb.mono (by simp; omega))
  clear hb hb' hx
  go_wp2
  refine bodyPost_ret (v := .agg #[.int .i64 m, .slice S n k]) (by unfold results; rw [Try.results7]; go_simp) rfl ?_
  refine ⟨_, rfl, ?_, ?_⟩
  · have ho2 := ownsRow_setCell_below (ownsRow_setCell_below (ownsRow_setCell_below hp (a := ⟨w.heap.size + 1 + 1, 1, none⟩) (by simp) (.slice S n k)) (a := ⟨w.heap.size + 1, 0, none⟩) (by simp) (.int .i64 m)) (a := ⟨w.heap.size + 1, 1, none⟩) (by simp) (.slice S n k)
    unfold Ow
    rw [List.length_map, hl]
    have hz2 : w.heap.size ≤ (((w.alloc (Obj.cells #[.int .i64 m, .slice A n cap] 24)).alloc (Obj.cells #[.int .i64 0, .slice none 0 0] 29)).alloc (Obj.cells #[.int .i64 m, .slice none 0 0] 29)).heap.size := by simp; omega
    exact own_base ho2 hz2
  · exact ((hb2.setCell (p := ⟨w.heap.size + 1 + 1, 1, none⟩) (by simp; omega) _).setCell (p := ⟨w.heap.size + 1, 0, none⟩) (by simp) _).setCell (p := ⟨w.heap.size + 1, 1, none⟩) (by simp) _


/-- what is left of a number when so many are taken -/
def szr (left : Int) (n : Nat) : Int := if left - n < 0 then -1 else left - n
theorem szr_bd {left : Int} (h0 : 0 ≤ left) (h1 : left ≤ 1048576) (n : Nat) : (szr left n < 0 ∧ szr left n = -1) ∨ (0 ≤ szr left n ∧ szr left n ≤ 1048576 ∧ (n : Int) ≤ left) := by
  unfold szr
  split <;> omega
theorem szInt64S_c (w : World) (A : Option Addr) (n cap : Nat) (left : Int) (h0 : 0 ≤ left) (h1 : left ≤ 1048576) (hn : n ≤ 9223372036854775807) :
    Calls Try.prog 33 #[.slice A n cap, .int .i64 left] w fun e w' => e = .returned (.int .i64 (szr left n)) ∧ w = w' := by
  by_cases h : left - n < 0
  · have e1 : szr left n = -1 := by unfold szr; rw [if_pos h]
    rw [e1]
    clear e1
    go_enter Try.func33, Try.ntmps33
    go_wp2
    go_ret
    exact ⟨rfl, rfl⟩
  · have e1 : szr left n = left - n := by unfold szr; rw [if_neg h]
    rw [e1]
    clear e1
    go_enter Try.func33, Try.ntmps33
    go_wp2
    go_ret
    exact ⟨rfl, rfl⟩


set_option maxRecDepth 100000 in
theorem szCoder_c (w : World) (m : Int) (A : Option Addr) (n cap : Nat) (left : Int) (h0 : 0 ≤ left) (h1 : left ≤ 1048576) (hn : n ≤ 9223372036854775807) :
    Calls Try.prog 5 #[.agg #[.int .i64 m, .slice A n cap], .int .i64 left] w fun e w' => e = .returned (.int .i64 (szr left n)) ∧ Below w.heap.size w w' := by
  have hb := szr_bd h0 h1 n
  obtain ⟨q, hq⟩ : ∃ q, szr left n = q := ⟨_, rfl⟩
  rw [hq] at hb ⊢
  have HQ := Lib.hid hq
  clear hq
  rcases hb with ⟨h2, rfl⟩ | ⟨h2, h3, h4⟩
  all_goals
    go_enter Try.func5, Try.ntmps5
    go_wp2_with (go_at_call 33; refine (szInt64S_c _ A n cap left h0 h1 hn).mono ?_; rintro e w' ⟨rfl, rfl⟩; rw [HQ.out])
    go_ret
    exact ⟨rfl, (Below.refl _ _).alloc (Nat.le_refl _) _⟩


theorem same_ne {xs ys : List Int} {i : Nat} (h1 : i < xs.length) (h2 : i < ys.length) (h : xs[i] ≠ ys[i]) : (xs == ys) = false := by
  rw [beq_eq_false_iff_ne]
  rintro rfl
  exact h rfl
theorem same_eq {xs ys : List Int} (hl : xs.length = ys.length) (h : ∀ i (h1 : i < xs.length) (h2 : i < ys.length), xs[i] = ys[i]) : (xs == ys) = true := by
  rw [beq_iff_eq]
  exact List.ext_getElem hl h
theorem same_len {xs ys : List Int} (h : xs.length ≠ ys.length) : (xs == ys) = false := by
  rw [beq_eq_false_iff_ne]
  rintro rfl
  exact h rfl


set_option maxRecDepth 100000 in
set_option maxHeartbeats 1000000 in
theorem Equal_i64_c (w : World) (B : Nat) (A A2 : Option Addr) (n cap n2 cap2 : Nat) (xs ys : List Int) (hl : xs.length = n) (hl2 : ys.length = n2) (hn : n ≤ 1099511627776) (hn2 : n2 ≤ 1099511627776) (hx : Sl w B A (xs.map (Value.int .i64))) (hy : Sl w B A2 (ys.map (Value.int .i64))) :
    Calls Try.prog 65 #[.slice A n cap, .slice A2 n2 cap2] w fun e w' => e = .returned (.bool (xs == ys)) ∧ ∃ m, w' = w.drewN m := by
  by_cases hne : n = n2
  · subst hne
    have he : ((n : Int) == (n : Int)) = true := by simp
    go_enter Try.func65, Try.ntmps65
    go_wp2
    go_loopw [13] (fun i wr => ∃ k m : Nat, k ≤ n ∧ i = .int .i64 k ∧ (∀ j (h1 : j < xs.length) (h2 : j < ys.length), j < k → xs[j] = ys[j]) ∧ wr = w.drewN m) (fun i _ => n - (intOf i).toNat)
    case atStart => exact ⟨0, 0, Nat.zero_le _, rfl, fun j _ _ hj => by omega, rfl⟩
    case round =>
      obtain ⟨k, m, hk, rfl, hp, rfl⟩ := hrel
      have HP := Lib.hid hp
      clear hp
      by_cases hlt : k < n
      · obtain ⟨b, off, rfl, hbb, hc1⟩ := hx.get k (by omega)
        obtain ⟨b2, off2, rfl, hbb2, hc2⟩ := hy.get k (by omega)
        obtain ⟨x, hxx⟩ : ∃ x, xs[k]'(by omega) = x := ⟨_, rfl⟩
        obtain ⟨y, hyy⟩ : ∃ y, ys[k]'(by omega) = y := ⟨_, rfl⟩
        rw [hxx] at hc1
        rw [hyy] at hc2
        have HX := Lib.hid hxx
        have HY := Lib.hid hyy
        clear hx hy hxx hyy
        by_cases hxy : x = y
        · subst hxy
          have hd : (x == x) = true := by simp
          go_wp2_with fail
          go_quiet (fail)
          go_wp2
          go_roundw
          case rel =>
            refine ⟨k + 1, _, by omega, by go_num, ?_, rfl⟩
            intro j h1 h2 hj
            by_cases hjk : j = k
            · subst hjk
              rw [HX.out, HY.out]
            · exact HP.out j h1 h2 (by omega)
          case measure => simp [intOf]; omega
        · have hd : (x == y) = false := by simpa using hxy
          go_wp2_with fail
          go_quiet (fail)
          go_wp2
          go_ret
          exact ⟨ret_bool (same_ne (i := k) (by omega) (by omega) (by rw [HX.out, HY.out]; exact hxy)).symm, _, World.drewN_drewN _ _ _⟩
      · have : k = n := by omega
        subst this
        go_wp2
        go_ret
        exact ⟨ret_bool (same_eq (by omega) (fun i h1 h2 => HP.out i h1 h2 (by omega))).symm, _, rfl⟩
  · have he : ((n : Int) == (n2 : Int)) = false := by simp; omega
    rw [same_len (by omega)]
    go_enter Try.func65, Try.ntmps65
    go_wp2
    go_ret
    exact ⟨rfl, 0, rfl⟩


set_option maxRecDepth 100000 in
theorem eqCoder_t (w : World) (m : Int) (A B : Option Addr) (n cap cap' : Nat) (xs : List Int) (hl : xs.length = n) (hn : n ≤ 1099511627776) (hx : Sl w w.heap.size A (xs.map (Value.int .i64))) (hy : Sl w w.heap.size B (xs.map (Value.int .i64))) :
    Calls Try.prog 11 #[.agg #[.int .i64 m, .slice A n cap], .agg #[.int .i64 m, .slice B n cap']] w fun e w' => e = .returned (.bool true) ∧ Below w.heap.size w w' := by
  have he : (m == m) = true := by simp
  go_enter Try.func11, Try.ntmps11
  go_wp2_with (go_at_call 53; refine (eqInt64S_t _ A B n cap cap' _ _ xs hl hn ((hx.alloc (Nat.le_refl _) _).alloc (by simp) _) ((hy.alloc (Nat.le_refl _) _).alloc (by simp) _)).mono ?_; rintro e w' ⟨rfl, q, rfl⟩)
  go_ret
  exact ⟨rfl, below_drewN (((Below.refl _ _).alloc (Nat.le_refl _) _).alloc (by simp) _) _⟩


def sameCoderB (m : Int) (xs : List Int) (m2 : Int) (ys : List Int) : Bool := (m == m2) && (xs == ys)
set_option maxRecDepth 100000 in
theorem impl_SameCoder_b (w : World) (m m2 : Int) (A A2 : Option Addr) (n cap n2 cap2 : Nat) (xs ys : List Int) (hl : xs.length = n) (hl2 : ys.length = n2) (hn : n ≤ 1099511627776) (hn2 : n2 ≤ 1099511627776) (hx : Sl w w.heap.size A (xs.map (Value.int .i64))) (hy : Sl w w.heap.size A2 (ys.map (Value.int .i64))) :
    Calls Try.prog 25 #[.agg #[.int .i64 m, .slice A n cap], .agg #[.int .i64 m2, .slice A2 n2 cap2]] w fun e w' => e = .returned (.bool (sameCoderB m xs m2 ys)) ∧ Below w.heap.size w w' := by
  unfold sameCoderB
  cases he : m == m2
  all_goals
    go_enter Try.func25, Try.ntmps25
    go_wp2_with (go_at_call 65; refine (Equal_i64_c _ _ A A2 n cap n2 cap2 xs ys hl hl2 hn hn2 ((hx.alloc (Nat.le_refl _) _).alloc (by simp) _) ((hy.alloc (Nat.le_refl _) _).alloc (by simp) _)).mono ?_; rintro e w' ⟨rfl, q, rfl⟩)
    go_ret
    first
      | exact ⟨rfl, below_drewN (((Below.refl _ _).alloc (Nat.le_refl _) _).alloc (by simp) _) _⟩
      | exact ⟨rfl, ((Below.refl _ _).alloc (Nat.le_refl _) _).alloc (by simp) _⟩

theorem impl_SameCoder_c (w : World) (m : Int) (A : Option Addr) (n cap : Nat) (xs : List Int) (hl : xs.length = n) (hn : n ≤ 1048576) (hx : Sl w w.heap.size A (xs.map (Value.int .i64)))
    (m2 : Int) (A2 : Option Addr) (n2 cap2 : Nat) (ys : List Int) (hl2 : ys.length = n2) (hn2 : n2 ≤ 1048576) (hy : Sl w w.heap.size A2 (ys.map (Value.int .i64))) :
    Calls Try.prog 25 #[.agg #[.int .i64 m, .slice A n cap], .agg #[.int .i64 m2, .slice A2 n2 cap2]] w fun e w' => e = .returned (.bool (sameCoderB m xs m2 ys)) ∧ Below w.heap.size w w' :=
  impl_SameCoder_b w m m2 A A2 n cap n2 cap2 xs ys hl hl2 (by omega) (by omega) hx hy

end Go.Proofs.Ytopeidmafalklaa
