/-
  Contracts of the laws' helpers for rows of rows of numbers.
  Conditions: lengths at most 1048576 where rows are copied.
-/
import Derived.Test.YtpdblaldndmdoaaSV
import Derived.Test.YtpdblaldndmdoaaCP
namespace Go.Proofs.Ytpdblaldndmdoaa
open Go.RowKit

/-- a row's head and what it holds -/
abbrev RowH := Option Addr × Nat × List Int
def rowV (r : RowH) : Value := .slice r.1 r.2.2.length r.2.1
def dat (rs : List RowH) : List (List Int) := rs.map (·.2.2)
/-- rows of rows, to be read -/
def Sl2 (w : World) (B : Nat) (A : Option Addr) (rs : List RowH) : Prop := Sl w B A (rs.map rowV) ∧ ∀ r ∈ rs, Sl w B r.1 (r.2.2.map (Value.int .i64))
theorem Sl2.below {w w' : World} {B : Nat} {A : Option Addr} {rs : List RowH} (h : Sl2 w B A rs) (hb : Below B w w') : Sl2 w' B A rs := ⟨h.1.below hb, fun r hr => (h.2 r hr).below hb⟩
theorem Sl2.more {w : World} {B B' : Nat} {A : Option Addr} {rs : List RowH} (h : Sl2 w B A rs) (hB : B ≤ B') : Sl2 w B' A rs := ⟨h.1.more hB, fun r hr => (h.2 r hr).more hB⟩
theorem Sl2.alloc {w : World} {B : Nat} {A : Option Addr} {rs : List RowH} (h : Sl2 w B A rs) (hB : B ≤ w.heap.size) (o : Obj) : Sl2 (w.alloc o) B A rs := h.below ((Below.refl _ _).alloc hB o)
theorem Sl2.up {w w' : World} {A : Option Addr} {rs : List RowH} (h : Sl2 w w.heap.size A rs) (hb : Below w.heap.size w w') : Sl2 w' w'.heap.size A rs := (h.below hb).more hb.size
theorem Sl2.drewN {w : World} {B : Nat} {A : Option Addr} {rs : List RowH} (h : Sl2 w B A rs) (n : Nat) : Sl2 (w.drewN n) B A rs := h

theorem dat_len (rs : List RowH) : (dat rs).length = rs.length := List.length_map _
theorem dat_get {rs : List RowH} {k : Nat} (h : k < rs.length) : (dat rs)[k]'(by rw [dat_len]; exact h) = rs[k].2.2 := by simp [dat]

set_option maxRecDepth 100000 in
set_option maxHeartbeats 1000000 in
theorem szInt64SS_c (w : World) (B : Nat) (A : Option Addr) (n cap : Nat) (rs : List RowH) (left : Int) (h0 : 0 ≤ left) (h1 : left ≤ 1048576) (hl : rs.length = n) (hn : n ≤ 9223372036854775807) (hr : ∀ r ∈ rs, r.2.2.length ≤ 9223372036854775807) (hx : Sl2 w B A rs) :
    Calls Try.prog 52 #[.slice A n cap, .int .i64 left] w fun e w' => ∃ q : Int, e = .returned (.int .i64 q) ∧ (q = -1 ∨ (0 ≤ q ∧ q ≤ 1048576 ∧ n ≤ 1048576 ∧ ∀ r ∈ rs, r.2.2.length ≤ 1048576)) ∧ w = w' := by
  by_cases hlt : left - n < 0
  · go_enter Try.func52, Try.ntmps52
    go_wp2
    go_ret
    exact ⟨_, rfl, .inl rfl, rfl⟩
  · go_enter Try.func52, Try.ntmps52
    go_wp2
    go_loop [1, 5] (fun q i => ∃ (k : Nat) (p : Int), k ≤ n ∧ i = .int .i64 k ∧ q = .int .i64 p ∧ 0 ≤ p ∧ p ≤ 1048576 ∧ ∀ r ∈ rs.take k, r.2.2.length ≤ 1048576) (fun _ i => n - (intOf i).toNat)
    case atStart => exact ⟨0, left - n, Nat.zero_le _, rfl, by go_num, by omega, by omega, by simp⟩
    case round =>
      obtain ⟨k, p, hk, rfl, rfl, hp0, hp1, hp⟩ := hrel
      have HP := Lib.hid hp
      clear hp
      by_cases hlt2 : k < n
      · obtain ⟨b, off, rfl, hbb, hc1⟩ := hx.1.get k (by omega)
        have hm := hr (rs[k]'(by omega)) (List.getElem_mem _)
        have htk : ∀ r ∈ rs.take (k + 1), r ∈ rs.take k ∨ r = rs[k]'(by omega) := fun r hr => by
          rw [List.take_succ_eq_append_getElem (by omega), List.mem_append] at hr
          simpa using hr
        obtain ⟨⟨a, c, l⟩, hxx⟩ : ∃ x, rs[k]'(by omega) = x := ⟨_, rfl⟩
        rw [hxx] at hc1 hm htk
        simp only [rowV] at hc1 hm
        have HT := Lib.hid htk
        have hrr := Lib.hid hr
        clear htk hxx hr hx
        have hs := szr_bd hp0 hp1 l.length
        obtain ⟨q, hq⟩ : ∃ q, szr p l.length = q := ⟨_, rfl⟩
        rw [hq] at hs
        have HQ := Lib.hid hq
        clear hq
        rcases hs with ⟨hs, rfl⟩ | ⟨hs, hs1, hs2⟩
        · go_wp2_with (go_at_call 62; refine (szInt64S_c _ a l.length c p hp0 hp1 hm).mono ?_; rintro e w' ⟨rfl, rfl⟩; rw [HQ.out])
          go_ret
          exact ⟨_, rfl, .inl rfl, rfl⟩
        · go_wp2_with (go_at_call 62; refine (szInt64S_c _ a l.length c p hp0 hp1 hm).mono ?_; rintro e w' ⟨rfl, rfl⟩; rw [HQ.out])
          go_round
          case rel =>
            refine ⟨k + 1, q, by omega, by go_num, rfl, hs, hs1, fun r hr => ?_⟩
            rcases HT.out r hr with h | rfl
            · exact HP.out r h
            · show l.length ≤ 1048576
              omega
          case measure => simp [intOf]; omega
      · have : k = n := by omega
        subst this
        go_wp2
        go_ret
        refine ⟨_, rfl, .inr ⟨hp0, hp1, by omega, ?_⟩, rfl⟩
        have h := HP.out
        rw [List.take_of_length_le (by omega)] at h
        exact fun a c l h' => h (a, c, l) h'

theorem infoI64s : (Try.prog.info? 36).map (fun i => (i.zero, i.size, i.bytes)) = some (some (.slice none 0 0), 1, 24) := by kernel_rfl

/-- a copy of rows of rows: its heads, and what they hold -/
def Copied (w : World) (B : Nat) (rs ys : List RowH) : Prop := dat ys = dat rs ∧ ∀ y ∈ ys, w.ownsRow B 2 1 (rowV y) y.2.2.length (y.2.2.map (Value.int .i64))
theorem Copied.sl {w : World} {B : Nat} {rs ys : List RowH} (h : Copied w B rs ys) : ∀ y ∈ ys, Sl w w.heap.size y.1 (y.2.2.map (Value.int .i64)) := fun y hy => sl_of_own (h.2 y hy)

theorem rows_len {rs ys : List RowH} (h : dat ys = dat rs) : ys.length = rs.length := by
  have := congrArg List.length h
  rwa [dat_len, dat_len] at this

theorem rows_short {rs ys : List RowH} {n : Nat} (h : dat ys = dat rs) (hr : ∀ r ∈ rs, r.2.2.length ≤ n) : ∀ y ∈ ys, y.2.2.length ≤ n := by
  intro y hy
  have h1 : y.2.2 ∈ dat rs := by rw [← h]; exact List.mem_map_of_mem hy
  obtain ⟨r, h2, h3⟩ := List.mem_map.1 h1
  rw [← h3]
  exact hr r h2
theorem sl2_of_own {w : World} {base base2 : Nat} {A : Option Addr} {n cap : Nat} {ys : List RowH} (ho : w.ownsRow base 36 1 (.slice A n cap) n (ys.map rowV)) (hin : ∀ y ∈ ys, w.ownsRow base2 2 1 (rowV y) y.2.2.length (y.2.2.map (Value.int .i64))) : Sl2 w w.heap.size A ys :=
  ⟨sl_of_own ho, fun y hy => sl_of_own (hin y hy)⟩

set_option maxRecDepth 100000 in
set_option maxHeartbeats 1000000 in
theorem toInt64SS_c (w : World) (A : Option Addr) (n cap : Nat) (rs : List RowH) (hl : rs.length = n) (hn : n ≤ 1048576) (hr : ∀ r ∈ rs, r.2.2.length ≤ 1048576) (hx : Sl2 w w.heap.size A rs) :
    Calls Try.prog 54 #[.slice A n cap] w fun e w' => ∃ v ys, e = .returned v ∧ dat ys = dat rs ∧ (∀ y ∈ ys, w'.ownsRow w.heap.size 2 1 (rowV y) y.2.2.length (y.2.2.map (Value.int .i64))) ∧ Ow w' w.heap.size 36 v (ys.map rowV) ∧ Below w.heap.size w w' := by
  obtain ⟨i0, hi, hz0, hz1, hz2⟩ := info_parts infoI64s
  obtain ⟨w1, hmk, hown, hgr⟩ := run_make_full (P := Try.prog) w w.heap.size 22 36 i0 (.slice none 0 0) 1 Try.underlying22 hi hz0 hz1 .i64 .i64 n (by rw [hz2]; omega) (by unfold maxLen; omega) (Nat.le_refl _)
  have hb1 : Below w.heap.size w w1 := (Below.refl _ _).grown hgr (Nat.le_refl _) (by simp)
  have hz : w.heap.size + 1 ≤ w1.heap.size := (hown.lt _ rfl).2
  go_enter Try.func54, Try.ntmps54
  go_wp2
  clear hgr hmk
  go_loopw [4] (fun i wr => ∃ (k : Nat) (ys : List RowH), k ≤ n ∧ i = .int .i64 k ∧ dat ys = dat (rs.take k) ∧ (∀ y ∈ ys, wr.ownsRow (w.heap.size + 1) 2 1 (rowV y) y.2.2.length (y.2.2.map (Value.int .i64))) ∧ wr.ownsRow w.heap.size 36 1 (.slice (some ⟨w.heap.size, 0, none⟩) n n) n (ys.map rowV ++ List.replicate (n-k) (.slice none 0 0)) ∧ Below w.heap.size w wr ∧ w.heap.size + 1 ≤ wr.heap.size) (fun i _ => n - (intOf i).toNat)
  case atStart =>
    refine ⟨0, [], Nat.zero_le _, rfl, rfl, by simp, ?_, hb1, by omega⟩
    simpa [Value.cells, toList_madeCells_one] using hown
  case round =>
    clear hown hb1
    obtain ⟨k, ys, hk, rfl, hd, hin, ho, hb, hsz⟩ := hrel
    have hyl : ys.length = k := by rw [rows_len hd, List.length_take]; omega
    by_cases hlt : k < n
    · obtain ⟨b, off, rfl, hbb, hc1⟩ := (hx.below hb).1.get k (by omega)
      have hsl := (hx.below hb).2 (rs[k]'(by omega)) (List.getElem_mem _)
      have hrk := hr (rs[k]'(by omega)) (List.getElem_mem _)
      have hdk : dat (rs.take (k + 1)) = dat (rs.take k) ++ [(rs[k]'(by omega)).2.2] := by
        rw [List.take_succ_eq_append_getElem (by omega)]; unfold dat; rw [List.map_append]; rfl
      obtain ⟨⟨a, c, l⟩, hxx⟩ : ∃ x, rs[k]'(by omega) = x := ⟨_, rfl⟩
      rw [hxx] at hc1 hsl hrk hdk
      simp only [rowV] at hc1 hsl hrk hdk
      have HD := Lib.hid hdk
      have HI := Lib.hid hin
      have HDD := Lib.hid hd
      clear hdk hxx hr hin hd hx
      go_wp2_with fail
      refine (toInt64S_c _ a l.length c l rfl hrk (hsl.more (by omega))).mono ?_
      rintro e w2 ⟨v, rfl, ho2, hb2⟩
      obtain ⟨S, q, rfl, hp⟩ := ho2.opn
      have ho3 := own_below ho hb2 (Nat.le_refl _)
      have hs := ho3.stored k (.slice S l.length q)
      have hc2 := ho3.cellAt k (by omega)
      have hf := ho3.frozenAt k
      have hz2 := hb2.size
      have hcell : ∃ u, w2.cell? ⟨w.heap.size, k, none⟩ = some u := by
        rw [hc2, List.getElem?_append_right (by rw [List.length_map]; omega)]
        rw [List.length_map, hyl, Nat.sub_self, List.getElem?_replicate, if_pos (by omega)]
        exact ⟨_, rfl⟩
      obtain ⟨u, hcell⟩ := hcell
      have HS := Lib.hid hs
      clear hs hc2 ho3 ho hc1
      go_wp2
      go_roundw
      case rel =>
        refine ⟨k + 1, ys ++ [(S, q, l)], by omega, by go_num, ?_, ?_, ?_, (hb.trans (hb2.mono hb.size)).setCell (p := ⟨w.heap.size, k, none⟩) (Nat.le_refl _) _, ?_⟩
        · rw [HD.out, ← HDD.out]
          unfold dat
          rw [List.map_append]
          rfl
        · intro y hy
          rw [List.mem_append] at hy
          rcases hy with hy | hy
          · exact ownsRow_setCell_below (own_below (HI.out y hy) hb2 (Nat.le_refl _)) (a := ⟨w.heap.size, k, none⟩) (Nat.lt_succ_self _) _
          · obtain rfl : y = (S, q, l) := by simpa using hy
            exact ownsRow_setCell_below (own_base hp hsz) (a := ⟨w.heap.size, k, none⟩) (Nat.lt_succ_self _) _
        · have h1 := HS.out.1
          rw [List.set_append_right _ _ (by rw [List.length_map]; omega), List.length_map, hyl, Nat.sub_self, show n - k = (n - (k + 1)) + 1 by omega, List.replicate_succ, List.set_cons_zero] at h1
          rw [List.map_append, List.append_assoc]
          exact h1
        · simp; omega
      case measure => simp [intOf]; omega
    · have : k = n := by omega
      subst this
      go_wp2
      go_ret
      rw [List.take_of_length_le (by omega)] at hd
      refine ⟨_, ys, rfl, hd, fun y hy => own_base (hin y hy) (by omega), ?_, hb⟩
      unfold Ow
      rw [List.length_map, hyl]
      simpa using ho

theorem eqInt64S_at {w : World} {A B : Option Addr} {n cap cap' b1 b2 q m : Nat} {xs : List Int} (hl : xs.length = n) (hn : n ≤ 1099511627776) (hx : Sl w b1 A (xs.map (Value.int .i64))) (hy : Sl w b2 B (xs.map (Value.int .i64))) :
    Calls Try.prog 41 #[.slice A n cap, .slice B n cap'] (w.drewN (q + m)) fun e w' => e = .returned (.bool true) ∧ ∃ k, w' = w.drewN (q + k) := by
  refine (eqInt64S_t (w.drewN (q + m)) A B n cap cap' b1 b2 xs hl hn hx hy).mono ?_
  rintro e w' ⟨rfl, k, rfl⟩
  exact ⟨rfl, m + k, by rw [World.drewN_drewN, Nat.add_assoc]⟩

set_option maxRecDepth 100000 in
set_option maxHeartbeats 1000000 in
theorem eqInt64SS_t (w : World) (A B : Option Addr) (n cap cap' b1 b2 : Nat) (rs ys : List RowH) (hd : dat rs = dat ys) (hl : rs.length = n) (hn : n ≤ 1048576) (hr : ∀ r ∈ rs, r.2.2.length ≤ 1048576) (hx : Sl2 w b1 A rs) (hy : Sl2 w b2 B ys) :
    Calls Try.prog 57 #[.slice A n cap, .slice B n cap'] w fun e w' => e = .returned (.bool true) ∧ ∃ k, w' = w.drewN k := by
  have hl2 : ys.length = n := by rw [← rows_len hd, hl]
  go_enter Try.func57, Try.ntmps57
  go_wp2
  go_loopw [5] (fun i wr => ∃ k m : Nat, k ≤ n ∧ i = .int .i64 k ∧ wr = w.drewN m) (fun i _ => n - (intOf i).toNat)
  case atStart => exact ⟨0, 0, Nat.zero_le _, rfl, rfl⟩
  case round =>
    obtain ⟨k, m, hk, rfl, rfl⟩ := hrel
    by_cases hlt : k < n
    · obtain ⟨b, off, rfl, hbb, hc1⟩ := hx.1.get k (by omega)
      obtain ⟨b', off', rfl, hbb', hc2⟩ := hy.1.get k (by omega)
      have g1 := hx.2 (rs[k]'(by omega)) (List.getElem_mem _)
      have g2 := hy.2 (ys[k]'(by omega)) (List.getElem_mem _)
      have g3 := hr (rs[k]'(by omega)) (List.getElem_mem _)
      have g4 : (rs[k]'(by omega)).2.2 = (ys[k]'(by omega)).2.2 := by
        rw [← dat_get (by omega), ← dat_get (by omega)]
        simp only [hd]
      obtain ⟨⟨a, c, l⟩, hxx⟩ : ∃ x, rs[k]'(by omega) = x := ⟨_, rfl⟩
      obtain ⟨⟨a2, c2, l2⟩, hyy⟩ : ∃ x, ys[k]'(by omega) = x := ⟨_, rfl⟩
      rw [hxx] at hc1 g1 g3 g4
      rw [hyy] at hc2 g2 g4
      simp only [rowV] at hc1 hc2 g1 g2 g3 g4
      subst g4
      clear hx hy hd hxx hyy hr
      go_wp2_with fail
      go_quiet ((go_at_call 41; exact eqInt64S_at rfl (by omega) g1 g2))
      go_wp2
      go_roundw
      case rel => exact ⟨k+1, _, by omega, by go_num, rfl⟩
      case measure => simp [intOf]; omega
    · have : k = n := by omega
      subst this
      go_wp2
      go_ret
      exact ⟨rfl, _, rfl⟩

/-- a function value that tests rows, quietly -/
def TestsR (g : FuncId) (lb : Array Value) (p : RowH → Bool) (w : World) (l : List RowH) : Prop :=
  (∀ args w, (callFunc g args).run Try.prog w = .ok (.enter g args) w) ∧ ∀ u ∈ l, ∀ m, Calls Try.prog g (#[rowV u] ++ lb) (w.drewN m) fun e w' => e = .returned (.bool (p u)) ∧ ∃ n, w' = (w.drewN m).drewN n
def idxR (p : RowH → Bool) (l : List RowH) : Int := match l.findIdx? p with | some i => i | none => -1
theorem idxR_some {p : RowH → Bool} {l : List RowH} {k : Nat} (hk : k < l.length) (hp : ∀ u ∈ l.take k, p u = false) (h : p l[k] = true) : idxR p l = k := by
  have : l.findIdx? p = some k := by
    rw [List.findIdx?_eq_some_iff_getElem]
    refine ⟨hk, h, fun j hj => ?_⟩
    have h1 := hp (l[j]'(by omega)) (by
      rw [List.mem_take_iff_getElem]
      exact ⟨j, by omega, rfl⟩)
    simp [h1]
  simp [idxR, this]
theorem idxR_none {p : RowH → Bool} {l : List RowH} (hp : ∀ u ∈ l, p u = false) : idxR p l = -1 := by
  have : l.findIdx? p = none := by
    rw [List.findIdx?_eq_none_iff]
    exact hp
  simp [idxR, this]
theorem idxR_any (p : RowH → Bool) (l : List RowH) : decide (idxR p l ≥ 0) = l.any p := by
  rcases h : l.findIdx? p with _ | i
  · have h1 := List.findIdx?_eq_none_iff.1 h
    have h2 : l.any p = false := by
      rw [← Bool.not_eq_true, List.any_eq_true]
      rintro ⟨x, hx, hp⟩
      rw [h1 x hx] at hp
      cases hp
    simp [idxR, h, h2]
  · have h1 := List.findIdx?_eq_some_iff_getElem.1 h
    have h2 : l.any p = true := List.any_eq_true.2 ⟨_, List.getElem_mem h1.1, h1.2.1⟩
    simp [idxR, h, h2]

set_option maxRecDepth 100000 in
set_option maxHeartbeats 400000 in
theorem IndexFunc_rows_c (w : World) (B : Nat) (A : Option Addr) (n cap : Nat) (l : List RowH) (hl : l.length = n) (hn : n ≤ 1099511627776) (hx : Sl w B A (l.map rowV)) (g : FuncId) (b : Value) (p : RowH → Bool) (ht : TestsR g #[b] p w l) :
    Calls Try.prog 129 #[.slice A n cap, .func (.func g) #[] #[b]] w fun e w' => e = .returned (.int .i64 (idxR p l)) ∧ ∃ n, w' = w.drewN n := by
  obtain ⟨hent, ht⟩ := ht
  have HT := Lib.hid ht
  clear ht
  go_enter Try.func129, Try.ntmps129
  go_wp2
  go_loopw [8] (fun i wr => ∃ k m : Nat, k ≤ n ∧ i = .int .i64 k ∧ (∀ u ∈ l.take k, p u = false) ∧ wr = w.drewN m) (fun i _ => n - (intOf i).toNat)
  case atStart => exact ⟨0, 0, Nat.zero_le _, rfl, by simp, rfl⟩
  case round =>
    obtain ⟨k, m, hk, rfl, hp, rfl⟩ := hrel
    have HP := Lib.hid hp
    clear hp
    by_cases hlt : k < n
    · obtain ⟨b2, off, rfl, hbb, hc1⟩ := hx.get k (by omega)
      obtain ⟨u, hu⟩ : ∃ u, l[k]'(by omega) = u := ⟨_, rfl⟩
      rw [hu] at hc1
      have HU := Lib.hid hu
      clear hu hx
      cases hp1 : p u
      · have HP1 := Lib.hid hp1
        clear hp1
        go_wp2_with fail
        refine (HT.out u (by rw [← HU.out]; exact List.getElem_mem _) m).mono ?_
        rintro e w' ⟨rfl, q, rfl⟩
        rw [HP1.out]
        go_wp2
        go_roundw
        case rel =>
          refine ⟨k+1, _, by omega, by go_num, ?_, rfl⟩
          intro v hv
          rw [List.take_succ_eq_append_getElem (by omega)] at hv
          rcases List.mem_append.1 hv with h | h
          · exact HP.out v h
          · rw [List.mem_singleton.1 h, HU.out]; exact HP1.out
        case measure => simp [intOf]; omega
      · have HP1 := Lib.hid hp1
        clear hp1
        go_wp2_with fail
        refine (HT.out u (by rw [← HU.out]; exact List.getElem_mem _) m).mono ?_
        rintro e w' ⟨rfl, q, rfl⟩
        rw [HP1.out]
        go_wp2
        go_ret
        exact ⟨ret_int (idxR_some (by omega) HP.out (by rw [HU.out]; exact HP1.out)).symm, _, rfl⟩
    · have : k = n := by omega
      subst this
      go_wp2
      go_ret
      exact ⟨ret_int (by rw [take_all hl] at HP; exact (idxR_none HP.out).symm), _, rfl⟩

theorem ContainsFunc_rows_c (w : World) (B : Nat) (A : Option Addr) (n cap : Nat) (l : List RowH) (hl : l.length = n) (hn : n ≤ 1099511627776) (hx : Sl w B A (l.map rowV)) (g : FuncId) (b : Value) (p : RowH → Bool) (ht : TestsR g #[b] p w l) :
    Calls Try.prog 107 #[.slice A n cap, .func (.func g) #[] #[b]] w fun e w' => e = .returned (.bool (l.any p)) ∧ ∃ n, w' = w.drewN n := by
  go_enter Try.func107, Try.ntmps107
  go_wp2_with (go_at_call 129; refine (IndexFunc_rows_c _ B A n cap l hl hn hx g b p ht).mono ?_; rintro e w' ⟨rfl, q, rfl⟩)
  go_ret
  exact ⟨ret_bool (by rw [← idxR_any]), _, rfl⟩

end Go.Proofs.Ytpdblaldndmdoaa
