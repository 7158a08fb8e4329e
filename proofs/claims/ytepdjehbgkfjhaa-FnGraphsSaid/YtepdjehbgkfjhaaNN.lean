/-
  Contracts of the laws' helpers for rows of rows of numbers.
  Conditions: lengths at most 1048576 where rows are copied.
-/
import Derived.Test.YtepdjehbgkfjhaaSV
import Derived.Test.YtepdjehbgkfjhaaCP
namespace Go.Proofs.Ytepdjehbgkfjhaa
open Go.RowKit

/-- a row's head and what it holds -/
abbrev RowH := Option Addr × Nat × List Int
def rowV (r : RowH) : Value := .slice r.1 r.2.2.length r.2.1
def dat (rs : List RowH) : List (List Int) := rs.map (·.2.2)
/-- rows of rows, to be read -/
def Sl2 (w : World) (B : Nat) (A : Option Addr) (rs : List RowH) : Prop := Sl w B A (rs.map rowV) ∧ ∀ r ∈ rs, Sl w B r.1 (r.2.2.map (Value.int .i64))
theorem Sl2.below {w w' : World} {B : Nat} {A : Option Addr} {rs : List RowH} (h : Sl2 w B A rs) (hb : Below B w w') : Sl2 w' B A rs := ⟨h.1.below hb, fun r hr => (h.2 r hr).below hb⟩
theorem Sl2.more {w : World} {B B' : Nat} {A : Option Addr} {rs : List RowH} (h : Sl2 w B A rs) (hB : B ≤ B') : Sl2 w B' A rs := ⟨h.1.more hB, fun r hr => (h.2 r hr).more hB⟩
theorem Sl2.alloc {w : World} {B : Nat} {A : Option Addr} {rs : List RowH} (h : Sl2 w B A rs) (hB : B ≤ w.heap.size) (o : Obj) : Sl2 (w.alloc o) B A rs := h.below ((Below.refl _ _).alloc hB o)
theorem Sl2.up {w w' : World} {A : Option Addr} {rs : List RowH} (h : Sl2 w w.heap.size A rs) (hb : Below w.heap.size w w') : Sl2 w' w'.heap.size A rs := (h.below hb).more hb.size
theorem Sl2.drewN {w : World} {B : Nat} {A : Option Addr} {rs : List RowH} (h : Sl2 w B A rs) (n : Nat) : Sl2 (w.drewN n) B A rs := h

theorem dat_len (rs : List RowH) : (dat rs).length = rs.length := List.length_map _
theorem dat_get {rs : List RowH} {k : Nat} (h : k < rs.length) : (dat rs)[k]'(by rw [dat_len]; exact h) = rs[k].2.2 := by simp [dat]



theorem infoI64s : (Try.prog.info? 43).map (fun i => (i.zero, i.size, i.bytes)) = some (some (.slice none 0 0), 1, 24) := by kernel_rfl

/-- a copy of rows of rows: its heads, and what they hold -/
def Copied (w : World) (B : Nat) (rs ys : List RowH) : Prop := dat ys = dat rs ∧ ∀ y ∈ ys, w.ownsRow B 2 1 (rowV y) y.2.2.length (y.2.2.map (Value.int .i64))
theorem Copied.sl {w : World} {B : Nat} {rs ys : List RowH} (h : Copied w B rs ys) : ∀ y ∈ ys, Sl w w.heap.size y.1 (y.2.2.map (Value.int .i64)) := fun y hy => sl_of_own (h.2 y hy)

theorem rows_len {rs ys : List RowH} (h : dat ys = dat rs) : ys.length = rs.length := by
  have := congrArg List.length h
  rwa [dat_len, dat_len] at this

theorem rows_short {rs ys : List RowH} {n : Nat} (h : dat ys = dat rs) (hr : ∀ r ∈ rs, r.2.2.length ≤ n) : ∀ y ∈ ys, y.2.2.length ≤ n := by
  intro y hy
  have h1 : y.2.2 ∈ dat rs := by rw [← h]; exact List.mem_map_of_mem hy
  obtain ⟨r, h2, h3⟩ := List.mem_map.1 h1
  rw [← h3]
  exact hr r h2
theorem sl2_of_own {w : World} {base base2 : Nat} {A : Option Addr} {n cap : Nat} {ys : List RowH} (ho : w.ownsRow base 43 1 (.slice A n cap) n (ys.map rowV)) (hin : ∀ y ∈ ys, w.ownsRow base2 2 1 (rowV y) y.2.2.length (y.2.2.map (Value.int .i64))) : Sl2 w w.heap.size A ys :=
  ⟨sl_of_own ho, fun y hy => sl_of_own (hin y hy)⟩



/-- a function value that tests rows, quietly -/
def TestsR (g : FuncId) (lb : Array Value) (p : RowH → Bool) (w : World) (l : List RowH) : Prop :=
  (∀ args w, (callFunc g args).run Try.prog w = .ok (.enter g args) w) ∧ ∀ u ∈ l, ∀ m, Calls Try.prog g (#[rowV u] ++ lb) (w.drewN m) fun e w' => e = .returned (.bool (p u)) ∧ ∃ n, w' = (w.drewN m).drewN n
def idxR (p : RowH → Bool) (l : List RowH) : Int := match l.findIdx? p with | some i => i | none => -1
theorem idxR_some {p : RowH → Bool} {l : List RowH} {k : Nat} (hk : k < l.length) (hp : ∀ u ∈ l.take k, p u = false) (h : p l[k] = true) : idxR p l = k := by
  have : l.findIdx? p = some k := by
    rw [List.findIdx?_eq_some_iff_getElem]
    refine ⟨hk, h, fun j hj => ?_⟩
    have h1 := hp (l[j]'(by omega)) (by
      rw [List.mem_take_iff_getElem]
      exact ⟨j, by omega, rfl⟩)
    simp [h1]
  simp [idxR, this]
theorem idxR_none {p : RowH → Bool} {l : List RowH} (hp : ∀ u ∈ l, p u = false) : idxR p l = -1 := by
  have : l.findIdx? p = none := by
    rw [List.findIdx?_eq_none_iff]
    exact hp
  simp [idxR, this]
theorem idxR_any (p : RowH → Bool) (l : List RowH) : decide (idxR p l ≥ 0) = l.any p := by
  rcases h : l.findIdx? p with _ | i
  · have h1 := List.findIdx?_eq_none_iff.1 h
    have h2 : l.any p = false := by
      rw [← Bool.not_eq_true, List.any_eq_true]
      rintro ⟨x, hx, hp⟩
      rw [h1 x hx] at hp
      cases hp
    simp [idxR, h, h2]
  · have h1 := List.findIdx?_eq_some_iff_getElem.1 h
    have h2 : l.any p = true := List.any_eq_true.2 ⟨_, List.getElem_mem h1.1, h1.2.1⟩
    simp [idxR, h, h2]


set_option maxRecDepth 100000 in
set_option maxHeartbeats 400000 in
theorem IndexFunc_rows_c (w : World) (B : Nat) (A : Option Addr) (n cap : Nat) (l : List RowH) (hl : l.length = n) (hn : n ≤ 1099511627776) (hx : Sl w B A (l.map rowV)) (g : FuncId) (b : Value) (p : RowH → Bool) (ht : TestsR g #[b] p w l) :
    Calls Try.prog 47 #[.slice A n cap, .func (.func g) #[] #[b]] w fun e w' => e = .returned (.int .i64 (idxR p l)) ∧ ∃ n, w' = w.drewN n := by
  obtain ⟨hent, ht⟩ := ht
  have HT := Lib.hid ht
  clear ht
  go_enter Try.func47, Try.ntmps47
  go_wp2
  go_loopw [8] (fun i wr => ∃ k m : Nat, k ≤ n ∧ i = .int .i64 k ∧ (∀ u ∈ l.take k, p u = false) ∧ wr = w.drewN m) (fun i _ => n - (intOf i).toNat)
  case atStart => exact ⟨0, 0, Nat.zero_le _, rfl, by simp, rfl⟩
  case round =>
    obtain ⟨k, m, hk, rfl, hp, rfl⟩ := hrel
    have HP := Lib.hid hp
    clear hp
    by_cases hlt : k < n
    · obtain ⟨b2, off, rfl, hbb, hc1⟩ := hx.get k (by omega)
      obtain ⟨u, hu⟩ : ∃ u, l[k]'(by omega) = u := ⟨_, rfl⟩
      rw [hu] at hc1
      have HU := Lib.hid hu
      clear hu hx
      cases hp1 : p u
      · have HP1 := Lib.hid hp1
        clear hp1
        go_wp2_with fail
        refine (HT.out u (by rw [← HU.out]; exact List.getElem_mem _) m).mono ?_
        rintro e w' ⟨rfl, q, rfl⟩
        rw [HP1.out]
        go_wp2
        go_roundw
        case rel =>
          refine ⟨k+1, _, by omega, by go_num, ?_, rfl⟩
          intro v hv
          rw [List.take_succ_eq_append_getElem (by omega)] at hv
          rcases List.mem_append.1 hv with h | h
          · exact HP.out v h
          · rw [List.mem_singleton.1 h, HU.out]; exact HP1.out
        case measure => simp [intOf]; omega
      · have HP1 := Lib.hid hp1
        clear hp1
        go_wp2_with fail
        refine (HT.out u (by rw [← HU.out]; exact List.getElem_mem _) m).mono ?_
        rintro e w' ⟨rfl, q, rfl⟩
        rw [HP1.out]
        go_wp2
        go_ret
        exact ⟨ret_int (idxR_some (by omega) HP.out (by rw [HU.out]; exact HP1.out)).symm, _, rfl⟩
    · have : k = n := by omega
      subst this
      go_wp2
      go_ret
      exact ⟨ret_int (by rw [take_all hl] at HP; exact (idxR_none HP.out).symm), _, rfl⟩


theorem ContainsFunc_rows_c (w : World) (B : Nat) (A : Option Addr) (n cap : Nat) (l : List RowH) (hl : l.length = n) (hn : n ≤ 1099511627776) (hx : Sl w B A (l.map rowV)) (g : FuncId) (b : Value) (p : RowH → Bool) (ht : TestsR g #[b] p w l) :
    Calls Try.prog 37 #[.slice A n cap, .func (.func g) #[] #[b]] w fun e w' => e = .returned (.bool (l.any p)) ∧ ∃ n, w' = w.drewN n := by
  go_enter Try.func37, Try.ntmps37
  go_wp2_with (go_at_call 47; refine (IndexFunc_rows_c _ B A n cap l hl hn hx g b p ht).mono ?_; rintro e w' ⟨rfl, q, rfl⟩)
  go_ret
  exact ⟨ret_bool (by rw [← idxR_any]), _, rfl⟩

end Go.Proofs.Ytepdjehbgkfjhaa
