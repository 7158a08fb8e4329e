/-
  Contracts: bits are a member of a graph.
  Conditions: lengths at most 1048576.
-/
import Derived.Test.YtepdjehbgkfjhaaSW
namespace Go.Proofs.Ytepdjehbgkfjhaa
open Go.RowKit

def oddL (bs : List Bool) (l : List Int) (k : Nat) : Bool := (l.take k).foldl (fun o i => o != bs.getD i.toNat false) false
def unevenB (bs : List Bool) (l : List Int) : Bool := oddL bs l l.length
def memberB (D : List (List Int)) (bs : List Bool) : Bool := D.all fun l => !unevenB bs l
def memOkB (m : Int) (D : List (List Int)) (bs : List Bool) : Bool := validGraphB m D && ((bs.length : Int) == m)
def isMemB (m : Int) (D : List (List Int)) (bs : List Bool) : Bool := memOkB m D bs && memberB D bs

theorem oddL_succ {bs : List Bool} {l : List Int} {k j : Nat} (hk : k < l.length) (hj : l[k] = (j : Int)) (hb : j < bs.length) : oddL bs l (k + 1) = (oddL bs l k != bs[j]) := by
  unfold oddL
  rw [List.take_succ_eq_append_getElem hk, List.foldl_append, hj]
  simp [List.getD, hb]
theorem vg_in {m : Int} {D : List (List Int)} (h : validGraphB m D = true) : ∀ l ∈ D, ∀ x ∈ l, 0 ≤ x ∧ x < m := by
  intro l hl x hx
  unfold validGraphB at h
  rw [Bool.and_eq_true, List.all_eq_true] at h
  have h1 := h.2 l hl
  unfold rowOk at h1
  rw [Bool.and_eq_true] at h1
  have h2 := setB_mem h1.2 x hx
  omega


set_option maxRecDepth 100000 in
theorem spec_l07Uneven_c (w : World) (B B2 : Nat) (A : Option Addr) (n cap : Nat) (l : List Int) (hl : l.length = n) (hn : n ≤ 1048576) (hx : Sl w B A (l.map (Value.int .i64)))
    (A2 : Option Addr) (n2 cap2 : Nat) (bs : List Bool) (hl2 : bs.length = n2) (_hn2 : n2 ≤ 1048576) (hy : Sl w B2 A2 (bs.map Value.bool)) (hin : ∀ x ∈ l, 0 ≤ x ∧ x < n2) :
    Calls Try.prog 28 #[.slice A n cap, .slice A2 n2 cap2] w fun e w' => e = .returned (.bool (unevenB bs l)) ∧ w = w' := by
  go_enter Try.func28, Try.ntmps28
  go_wp2
  go_loop [5, 9] (fun o i => ∃ k : Nat, k ≤ n ∧ i = .int .i64 k ∧ o = .bool (oddL bs l k)) (fun _ i => n - (intOf i).toNat)
  case atStart => exact ⟨0, Nat.zero_le _, rfl, rfl⟩
  case round =>
    obtain ⟨k, hk, rfl, rfl⟩ := hrel
    by_cases hlt : k < n
    · obtain ⟨b, off, rfl, hbb, hc1⟩ := hx.get k (by omega)
      have hj := hin (l[k]'(by omega)) (List.getElem_mem _)
      obtain ⟨j, hj2⟩ : ∃ j : Nat, l[k]'(by omega) = (j : Int) := ⟨(l[k]'(by omega)).toNat, by omega⟩
      rw [hj2] at hc1 hj
      obtain ⟨b2, off2, rfl, hbb2, hc2⟩ := hy.get j (by omega)
      have hs := oddL_succ (bs := bs) (l := l) (k := k) (j := j) (by omega) hj2 (by omega)
      have hjn : (0 : Int) ≤ (j : Int) := by omega
      have hjl : (j : Int) < (n2 : Int) := by omega
      have hjb : j < bs.length := by omega
      obtain ⟨v, hv⟩ : ∃ v, bs[j]'hjb = v := ⟨_, rfl⟩
      rw [hv] at hs hc2
      have HS := Lib.hid hs
      clear hx hy hin hj2 hs hv
      go_wp2
      go_round
      case rel => exact ⟨k + 1, by omega, by go_num, by rw [HS.out]; rfl⟩
      case measure => simp [intOf]; omega
    · have : k = n := by omega
      subst this
      go_wp2
      go_ret
      exact ⟨ret_bool (by unfold unevenB; rw [hl]), rfl⟩


set_option maxRecDepth 100000 in
theorem impl_isEven_c (w : World) (B B2 : Nat) (A : Option Addr) (n cap : Nat) (l : List Int) (hl : l.length = n) (hn : n ≤ 1048576) (hx : Sl w B A (l.map (Value.int .i64)))
    (A2 : Option Addr) (n2 cap2 : Nat) (bs : List Bool) (hl2 : bs.length = n2) (_hn2 : n2 ≤ 1048576) (hy : Sl w B2 A2 (bs.map Value.bool)) (hin : ∀ x ∈ l, 0 ≤ x ∧ x < n2) :
    Calls Try.prog 23 #[.slice A n cap, .slice A2 n2 cap2] w fun e w' => e = .returned (.bool (!unevenB bs l)) ∧ w = w' := by
  go_enter Try.func23, Try.ntmps23
  go_wp2
  go_loop [5, 10] (fun o i => ∃ k : Nat, k ≤ n ∧ i = .int .i64 k ∧ o = .bool (!oddL bs l k)) (fun _ i => n - (intOf i).toNat)
  case atStart => exact ⟨0, Nat.zero_le _, rfl, rfl⟩
  case round =>
    obtain ⟨k, hk, rfl, rfl⟩ := hrel
    by_cases hlt : k < n
    · obtain ⟨b, off, rfl, hbb, hc1⟩ := hx.get k (by omega)
      have hj := hin (l[k]'(by omega)) (List.getElem_mem _)
      obtain ⟨j, hj2⟩ : ∃ j : Nat, l[k]'(by omega) = (j : Int) := ⟨(l[k]'(by omega)).toNat, by omega⟩
      rw [hj2] at hc1 hj
      obtain ⟨b2, off2, rfl, hbb2, hc2⟩ := hy.get j (by omega)
      have hs := oddL_succ (bs := bs) (l := l) (k := k) (j := j) (by omega) hj2 (by omega)
      have hjn : (0 : Int) ≤ (j : Int) := by omega
      have hjl : (j : Int) < (n2 : Int) := by omega
      obtain ⟨o, ho⟩ : ∃ o, oddL bs l k = o := ⟨_, rfl⟩
      have hjb : j < bs.length := by omega
      obtain ⟨v, hv⟩ : ∃ v, bs[j]'hjb = v := ⟨_, rfl⟩
      rw [ho, hv] at hs
      rw [hv] at hc2
      rw [ho]
      have HS := Lib.hid hs
      clear hx hy hin hj2 hs ho hv
      cases v
      all_goals
        go_wp2
        go_round
        case rel => exact ⟨k + 1, by omega, by go_num, by rw [HS.out]; cases o <;> rfl⟩
        case measure => simp [intOf]; omega
    · have : k = n := by omega
      subst this
      go_wp2
      go_ret
      exact ⟨ret_bool (by unfold unevenB; rw [hl]), rfl⟩


set_option maxRecDepth 100000 in
theorem impl_isMember1_c (w : World) (b B B2 : Nat) (r : RowH) (hn : r.2.2.length ≤ 1048576) (hx : Sl w B r.1 (r.2.2.map (Value.int .i64)))
    (A2 : Option Addr) (n2 cap2 : Nat) (bs : List Bool) (hl2 : bs.length = n2) (hn2 : n2 ≤ 1048576) (hy : Sl w B2 A2 (bs.map Value.bool)) (hin : ∀ x ∈ r.2.2, 0 ≤ x ∧ x < n2) (h0 : w.cell? ⟨b, 0, none⟩ = some (.slice A2 n2 cap2)) :
    Calls Try.prog 43 #[rowV r, .pointer (some ⟨b, 0, none⟩)] w fun e w' => e = .returned (.bool (unevenB bs r.2.2)) ∧ ∃ k, w' = w.drewN k := by
  obtain ⟨a, c, l⟩ := r
  simp only [rowV] at hx hn hin ⊢
  go_enter Try.func43, Try.ntmps43
  go_wp2_with (go_at_call 23; refine (impl_isEven_c _ B B2 a l.length c l rfl hn hx A2 n2 cap2 bs hl2 hn2 hy hin).mono ?_; rintro e w' ⟨rfl, rfl⟩)
  go_ret
  exact ⟨ret_bool (by simp), 0, rfl⟩

theorem any_uneven (bs : List Bool) (ys : List RowH) : (ys.any fun r => unevenB bs r.2.2) = !(memberB (dat ys) bs) := by
  unfold memberB dat
  rw [List.all_map, List.not_all_eq_any_not]
  congr 1
  funext r
  simp

set_option maxRecDepth 100000 in
theorem impl_isMember_c (w : World) (m : Int) (A : Option Addr) (n cap : Nat) (ys : List RowH) (D : List (List Int)) (hd : dat ys = D) (hl : ys.length = n) (hn : n ≤ 1048576) (hr : ∀ r ∈ ys, r.2.2.length ≤ 1048576) (hx : Sl2 w w.heap.size A ys)
    (A2 : Option Addr) (n2 cap2 : Nat) (bs : List Bool) (hl2 : bs.length = n2) (hn2 : n2 ≤ 1048576) (hy : Sl w w.heap.size A2 (bs.map Value.bool)) (hin : ∀ l ∈ D, ∀ x ∈ l, 0 ≤ x ∧ x < n2) :
    Calls Try.prog 22 #[.agg #[.int .i64 m, .slice A n cap], .slice A2 n2 cap2] w fun e w' => e = .returned (.bool (memberB D bs)) ∧ Below w.heap.size w w' := by
  have hany := any_uneven bs ys
  rw [hd] at hany
  obtain ⟨w1, ew⟩ : ∃ q : World, q = (w.alloc (.cells #[.int .i64 m, .slice A n cap] 26)).alloc (.cells #[.slice A2 n2 cap2] 28) := ⟨_, rfl⟩
  have hB : Below w.heap.size w w1 := by rw [ew]; exact ((Below.refl _ _).alloc (Nat.le_refl _) _).alloc (by simp) _
  have c1 : w1.cell? ⟨w.heap.size, 1, none⟩ = some (.slice A n cap) := by rw [ew]; (first | (simp; done) | (simp (disch := (first | (simp; done) | (simp; omega))) [World.cell?_alloc_at]; done) | (simp (disch := (first | (simp; done) | (simp; omega))) [World.cell?_alloc_past]; done) | (simp (disch := (first | (simp; done) | (simp; omega))) [World.cell?_alloc_at, World.cell?_alloc_past]; done) | (simp (disch := (first | (simp; done) | (simp; omega))) [World.frozen?_alloc_at]; done) | (simp (disch := (first | (simp; done) | (simp; omega))) [World.frozen?_alloc_past]; done) | (simp (disch := (first | (simp; done) | (simp; omega))) [World.frozen?_alloc_at, World.frozen?_alloc_past]; done))
  have c2 : w1.cell? ⟨w.heap.size + 1, 0, none⟩ = some (.slice A2 n2 cap2) := by rw [ew]; (first | (simp; done) | (simp (disch := (first | (simp; done) | (simp; omega))) [World.cell?_alloc_at]; done) | (simp (disch := (first | (simp; done) | (simp; omega))) [World.cell?_alloc_past]; done) | (simp (disch := (first | (simp; done) | (simp; omega))) [World.cell?_alloc_at, World.cell?_alloc_past]; done) | (simp (disch := (first | (simp; done) | (simp; omega))) [World.frozen?_alloc_at]; done) | (simp (disch := (first | (simp; done) | (simp; omega))) [World.frozen?_alloc_past]; done) | (simp (disch := (first | (simp; done) | (simp; omega))) [World.frozen?_alloc_at, World.frozen?_alloc_past]; done))
  have hx1 := hx.below hB
  have hy1 := hy.below hB
  have ht : TestsR 43 #[.pointer (some ⟨w.heap.size + 1, 0, none⟩)] (fun r => unevenB bs r.2.2) w1 ys := by
    refine ⟨Try.call43, fun u hu q => ?_⟩
    exact impl_isMember1_c _ (w.heap.size + 1) _ _ u (hr u hu) ((hx1.2 u hu).drewN q) A2 n2 cap2 bs hl2 hn2 (hy1.drewN q) (hin u.2.2 (by rw [← hd]; exact List.mem_map_of_mem hu)) c2
  have HT := Lib.hid ht
  have HA := Lib.hid hany
  clear ht hany hd hr hx hy hin
  go_enter Try.func22, Try.ntmps22
  go_wp2_with fail
  rw [← ew]
  clear ew
  go_wp2_with (go_at_call 37; refine (ContainsFunc_rows_c _ _ A n cap ys hl (by omega) hx1.1 _ _ _ HT.out).mono ?_; rintro e w' ⟨rfl, q, rfl⟩; rw [HA.out])
  go_ret
  exact ⟨ret_bool (by simp), below_drewN hB _⟩


set_option maxRecDepth 100000 in
set_option maxHeartbeats 400000 in
theorem spec_l07Member_c (w : World) (b B B2 : Nat) (A : Option Addr) (n cap : Nat) (ys : List RowH) (D : List (List Int)) (hd : dat ys = D) (h1 : w.cell? ⟨b, 1, none⟩ = some (.slice A n cap)) (hl : ys.length = n) (hn : n ≤ 1048576) (hr : ∀ r ∈ ys, r.2.2.length ≤ 1048576) (hx : Sl2 w B A ys)
    (A2 : Option Addr) (n2 cap2 : Nat) (bs : List Bool) (hl2 : bs.length = n2) (hn2 : n2 ≤ 1048576) (hy : Sl w B2 A2 (bs.map Value.bool)) (hin : ∀ l ∈ D, ∀ x ∈ l, 0 ≤ x ∧ x < n2) :
    Calls Try.prog 27 #[.pointer (some ⟨b, 0, none⟩), .slice A2 n2 cap2] w fun e w' => e = .returned (.bool (memberB D bs)) ∧ w = w' := by
  have hdl : D.length = n := by rw [← hd, dat_len, hl]
  have hno : ∀ k (hk : k < D.length), unevenB bs D[k] = true → memberB D bs = false := fun k hk h => by
    unfold memberB
    rw [← Bool.not_eq_true, List.all_eq_true]
    intro hh
    have := hh _ (List.getElem_mem hk)
    rw [h] at this
    cases this
  have hyes : (∀ k (hk : k < D.length), unevenB bs D[k] = false) → memberB D bs = true := fun h => by
    unfold memberB
    rw [List.all_eq_true]
    intro l hl
    obtain ⟨k, hk, rfl⟩ := List.mem_iff_getElem.1 hl
    rw [h k hk]
    rfl
  have HNO := Lib.hid hno
  have HYES := Lib.hid hyes
  clear hno hyes
  go_enter Try.func27, Try.ntmps27
  go_wp2
  go_loop [11] (fun i => ∃ k : Nat, k ≤ n ∧ i = .int .i64 k ∧ (∀ j (hj : j < D.length), j < k → unevenB bs D[j] = false)) (fun i => n - (intOf i).toNat)
  case atStart => exact ⟨0, Nat.zero_le _, rfl, fun j _ hj => by omega⟩
  case round =>
    obtain ⟨k, hk, rfl, hp⟩ := hrel
    have HP := Lib.hid hp
    clear hp
    by_cases hlt : k < n
    · obtain ⟨b1, off, rfl, hbb, hc1⟩ := hx.1.get k (by omega)
      have g1 := hx.2 (ys[k]'(by omega)) (List.getElem_mem _)
      have g3 := hr (ys[k]'(by omega)) (List.getElem_mem _)
      have e1 : D[k]'(by omega) = (ys[k]'(by omega)).2.2 := by
        rw [← dat_get (by omega)]
        simp only [hd]
      have g5 := hin (D[k]'(by omega)) (List.getElem_mem _)
      obtain ⟨⟨a, c, l⟩, hxx⟩ : ∃ x, ys[k]'(by omega) = x := ⟨_, rfl⟩
      rw [hxx] at hc1 g1 g3 e1
      simp only [rowV] at hc1 g1 g3 e1
      rw [e1] at g5
      have E1 := Lib.hid e1
      clear hx hxx hr e1 hin hd
      cases hu : unevenB bs l
      · have HU := Lib.hid hu
        clear hu
        go_wp2_with (go_at_call 28; refine (spec_l07Uneven_c _ B B2 a l.length c l rfl g3 g1 A2 n2 cap2 bs hl2 hn2 hy g5).mono ?_; rintro e w' ⟨rfl, rfl⟩; rw [HU.out])
        go_round
        case rel =>
          refine ⟨k + 1, by omega, by go_num, ?_⟩
          intro j h1 hj
          by_cases hjk : j = k
          · subst hjk
            rw [E1.out]
            exact HU.out
          · exact HP.out j h1 (by omega)
        case measure => simp [intOf]; omega
      · have HU := Lib.hid hu
        clear hu
        go_wp2_with (go_at_call 28; refine (spec_l07Uneven_c _ B B2 a l.length c l rfl g3 g1 A2 n2 cap2 bs hl2 hn2 hy g5).mono ?_; rintro e w' ⟨rfl, rfl⟩; rw [HU.out])
        go_ret
        exact ⟨ret_bool (HNO.out k (by omega) (by rw [E1.out]; exact HU.out)).symm, rfl⟩
    · have : k = n := by omega
      subst this
      go_wp2
      go_ret
      exact ⟨ret_bool (HYES.out (fun i hi => HP.out i hi (by omega))).symm, rfl⟩


set_option maxRecDepth 100000 in
set_option maxHeartbeats 400000 in
theorem impl_IsMember_c (w : World) (m : Int) (A : Option Addr) (n cap : Nat) (ys : List RowH) (D : List (List Int)) (hd : dat ys = D) (hl : ys.length = n) (hn : n ≤ 1048576) (hr : ∀ r ∈ ys, r.2.2.length ≤ 1048576) (hx0 : Sl2 w w.heap.size A ys)
    (A2 : Option Addr) (n2 cap2 : Nat) (bs : List Bool) (hl2 : bs.length = n2) (hn2 : n2 ≤ 1048576) (hy0 : Sl w w.heap.size A2 (bs.map Value.bool)) :
    Calls Try.prog 12 #[.agg #[.int .i64 m, .slice A n cap], .slice A2 n2 cap2] w fun e w' => e = .returned (.tuple #[.bool (isMemB m D bs), .bool (memOkB m D bs)]) ∧ Below w.heap.size w w' := by
  obtain ⟨w1, ew⟩ : ∃ q : World, q = w.alloc (.cells #[.int .i64 m, .slice A n cap] 26) := ⟨_, rfl⟩
  have hB : Below w.heap.size w w1 := by rw [ew]; exact (Below.refl _ _).alloc (Nat.le_refl _) _
  have c0 : w1.cell? ⟨w.heap.size, 0, none⟩ = some (.int .i64 m) := by rw [ew]; (first | (simp; done) | (simp (disch := (first | (simp; done) | (simp; omega))) [World.cell?_alloc_at]; done) | (simp (disch := (first | (simp; done) | (simp; omega))) [World.cell?_alloc_past]; done) | (simp (disch := (first | (simp; done) | (simp; omega))) [World.cell?_alloc_at, World.cell?_alloc_past]; done) | (simp (disch := (first | (simp; done) | (simp; omega))) [World.frozen?_alloc_at]; done) | (simp (disch := (first | (simp; done) | (simp; omega))) [World.frozen?_alloc_past]; done) | (simp (disch := (first | (simp; done) | (simp; omega))) [World.frozen?_alloc_at, World.frozen?_alloc_past]; done))
  have c1 : w1.cell? ⟨w.heap.size, 1, none⟩ = some (.slice A n cap) := by rw [ew]; (first | (simp; done) | (simp (disch := (first | (simp; done) | (simp; omega))) [World.cell?_alloc_at]; done) | (simp (disch := (first | (simp; done) | (simp; omega))) [World.cell?_alloc_past]; done) | (simp (disch := (first | (simp; done) | (simp; omega))) [World.cell?_alloc_at, World.cell?_alloc_past]; done) | (simp (disch := (first | (simp; done) | (simp; omega))) [World.frozen?_alloc_at]; done) | (simp (disch := (first | (simp; done) | (simp; omega))) [World.frozen?_alloc_past]; done) | (simp (disch := (first | (simp; done) | (simp; omega))) [World.frozen?_alloc_at, World.frozen?_alloc_past]; done))
  have hz : w1.heap.size = w.heap.size + 1 := by rw [ew]; simp
  have hx := (hx0.below hB).more hB.size
  have hy := (hy0.below hB).more hB.size
  clear hx0 hy0
  unfold isMemB memOkB
  rw [hl2]
  cases hv : validGraphB m D
  · have HV := Lib.hid hv
    clear hv
    go_enter Try.func12, Try.ntmps12
    go_wp2_with fail
    rw [← ew]
    clear ew
    go_wp2_with (go_at_call 14; refine (impl_ValidGraph_c w1 m A n cap ys D hd hl hn hr hx).mono ?_; rintro e w2 ⟨rfl, hb2⟩; rw [HV.out])
    go_ret2
    exact ⟨rfl, hB.trans (hb2.mono hB.size)⟩
  · have hin := vg_in hv
    have HV := Lib.hid hv
    clear hv
    cases he : (n2 : Int) == m
    · go_enter Try.func12, Try.ntmps12
      go_wp2_with fail
      rw [← ew]
      clear ew
      go_wp2_with fail
      refine (impl_ValidGraph_c w1 m A n cap ys D hd hl hn hr hx).mono ?_
      rintro e w2 ⟨rfl, hb2⟩
      rw [HV.out]
      have d0 := (hb2.cell (p := ⟨w.heap.size, 0, none⟩) (by simp only []; omega)).trans c0
      go_wp2
      go_ret2
      exact ⟨rfl, hB.trans (hb2.mono hB.size)⟩
    · have hin2 : ∀ l ∈ D, ∀ x ∈ l, 0 ≤ x ∧ x < n2 := fun l hl x hx => by
        have h1 := hin l hl x hx
        have h2 : (n2 : Int) = m := by simpa using he
        omega
      clear hin
      go_enter Try.func12, Try.ntmps12
      go_wp2_with fail
      rw [← ew]
      clear ew
      go_wp2_with fail
      refine (impl_ValidGraph_c w1 m A n cap ys D hd hl hn hr hx).mono ?_
      rintro e w2 ⟨rfl, hb2⟩
      rw [HV.out]
      have d0 := (hb2.cell (p := ⟨w.heap.size, 0, none⟩) (by simp only []; omega)).trans c0
      have d1 := (hb2.cell (p := ⟨w.heap.size, 1, none⟩) (by simp only []; omega)).trans c1
      have hB2 := hB.trans (hb2.mono hB.size)
      clear c0 c1
      go_wp2_with fail
      refine (impl_isMember_c w2 m A n cap ys D hd hl hn hr (hx.up hb2) A2 n2 cap2 bs hl2 hn2 ((hy.below hb2).more hb2.size) hin2).mono ?_
      rintro e w3 ⟨rfl, hb3⟩
      go_wp2
      go_ret2
      exact ⟨rfl, hB2.trans (hb3.mono hB2.size)⟩

end Go.Proofs.Ytepdjehbgkfjhaa
