/-
  Contracts: packs of one letter each, sorted (the reference's).
  Conditions: at most 16 letters.
-/
import Derived.Test.YtkmfjadlobpbkaaBK
import Derived.Test.YtkmfjadlobpbkaaSC
namespace Go.Proofs.Ytkmfjadlobpbkaa
open Go.RowKit

theorem infoPack : (Try.prog.info? 42).map (fun i => (i.zero, i.size, i.bytes)) = some (some (.agg #[.int .i64 0, .slice none 0 0]), 2, 32) := by kernel_rfl
theorem ownP_empty (w : World) (base : Nat) (hb : base ≤ w.heap.size) : (w.alloc (.cells #[] 42)).ownsRow base 42 2 (.slice (some ⟨w.heap.size, 0, none⟩) 0 0) 0 [] := World.ownsRow_lit w #[] 0 hb (by simp [maxLen]) rfl
/-- what a row of packs holds: numbers in rows of n -/
def Num (W : World) (base n : Nat) (T : List Tri) : Prop := ∀ t ∈ T, W.ownsRow base 2 1 t.2.1 n (t.2.2.map (Value.int .i64)) ∧ t.2.2.length = n
theorem Num.below {W W' : World} {base n : Nat} {T : List Tri} (h : Num W base n T) (hb : Below W.heap.size W W') : Num W' base n T :=
  fun t ht => ⟨own_below (h t ht).1 hb (Nat.le_refl _), (h t ht).2⟩
theorem Num.grown {W W' : World} {base b2 s2 k2 n : Nat} {T : List Tri} {e2 : TypeId} {v2 : Value} {x2 : List Value} (h : Num W base n T) (h2 : W.ownsRow b2 e2 s2 v2 k2 x2) (hne : 2 ≠ e2) (hg : W.grownBy W' v2.ownBlock) : Num W' base n T :=
  fun t ht => ⟨(h t ht).1.kept hg (own_typesM (h t ht).1 h2 hne), (h t ht).2⟩
theorem Num.base {W : World} {base base' n : Nat} {T : List Tri} (h : Num W base n T) (hb : base' ≤ base) : Num W base' n T := fun t ht => ⟨own_base (h t ht).1 hb, (h t ht).2⟩
theorem insL_at {α : Type} (x : Int × α) {T : List (Int × α)} {k : Nat} (h1 : ∀ y ∈ T.take k, y.1 ≤ x.1) (h2 : ∀ y ∈ T.drop k, x.1 < y.1) : insL x T = T.take k ++ x :: T.drop k := by
  have e : T = T.take k ++ T.drop k := (List.take_append_drop k T).symm
  conv => lhs; rw [e]
  rw [insL_over x _ _ h1]
  congr 1
  cases hd : T.drop k with
  | nil => rfl
  | cons y l =>
    rw [hd] at h2
    rw [insL, if_pos (h2 y List.mem_cons_self)]
/-- one on its way down -/
def atK {α : Type} (T : List α) (x : α) (k : Nat) : List α := T.take k ++ x :: T.drop k
theorem atK_len {α : Type} (T : List α) (x : α) {k : Nat} (h : k ≤ T.length) : (atK T x k).length = T.length + 1 := by simp [atK]; omega
theorem atK_here {α : Type} (T : List α) (x : α) {k : Nat} (h : k ≤ T.length) : (atK T x k)[k]? = some x := by
  unfold atK
  rw [List.getElem?_append_right (by simp; omega)]
  simp [Nat.min_eq_left h]
theorem atK_before {α : Type} (T : List α) (x : α) {k l : Nat} (h : k ≤ T.length) (hl : l < k) : (atK T x k)[l]? = some (T[l]'(by omega)) := by
  unfold atK
  rw [List.getElem?_append_left (by simp; omega), List.getElem?_take_of_lt hl]
  exact List.getElem?_eq_getElem _
theorem atK_down {α : Type} (T : List α) (x : α) {l : Nat} (h : l < T.length) : ((atK T x (l + 1)).set (l + 1) T[l]).set l x = atK T x l := by
  have e1 : T.take (l + 1) = T.take l ++ [T[l]] := List.take_succ_eq_append_getElem h
  have e2 : T.drop l = T[l] :: T.drop (l + 1) := (List.drop_eq_getElem_cons h)
  unfold atK
  rw [e1, e2]
  have hl : (T.take l).length = l := by simp; omega
  rw [List.append_assoc, List.set_append_right _ _ (by omega), hl, show l + 1 - l = 1 by omega, List.set_append_right _ _ (by omega), hl, Nat.sub_self]
  rfl
theorem cellsT_atK (T : List Tri) (X : Tri) (k : Nat) : cellsT (atK T X k) = atK (cellsT T) (X.1, X.2.1) k := by simp [cellsT, atK]
theorem atK_end {α : Type} (T : List α) (x : α) {k : Nat} (h : T.length = k) : atK T x k = T ++ [x] := by
  unfold atK
  rw [List.take_of_length_le (by omega), List.drop_eq_nil_of_le (by omega)]
/-- the cells of a pack in a row -/
theorem pack_cells {W : World} {base g n cap : Nat} {e : TypeId} {ts : List (Int × Value)} (h : W.ownsRow base e 2 (.slice (some ⟨g, 0, none⟩) n cap) n (fl2 ts)) {i : Nat} {x : Int} {v : Value} (hi : ts[i]? = some (x, v)) : W.cell? ⟨g, i * 2, none⟩ = some (.int .i64 x) ∧ W.cell? ⟨g, i * 2 + 1, none⟩ = some v := by
  obtain ⟨hlt, he⟩ := List.getElem?_eq_some_iff.1 hi
  have h2 := fl2_at ts i hlt
  have hl := h.1
  rw [fl2_len] at hl
  have k0 := World.ownsRow.cellAt h (i * 2) (by omega)
  have k1 := World.ownsRow.cellAt h (i * 2 + 1) (by omega)
  rw [h2.1, he] at k0
  rw [h2.2, he] at k1
  exact ⟨k0, k1⟩
/-- two packs exchanged -/
theorem pack_swap {W : World} {base g n cap : Nat} {e : TypeId} {T : List (Int × Value)} {x y : Int} {u v : Value} {l : Nat} (h : W.ownsRow base e 2 (.slice (some ⟨g, 0, none⟩) n cap) n (fl2 (atK T (x, u) (l + 1)))) (hl : l < T.length) (hy : T[l] = (y, v)) :
    ((((W.setCell ⟨g, (l + 1) * 2, none⟩ (.int .i64 y)).setCell ⟨g, (l + 1) * 2 + 1, none⟩ v).setCell ⟨g, l * 2, none⟩ (.int .i64 x)).setCell ⟨g, l * 2 + 1, none⟩ u).ownsRow base e 2 (.slice (some ⟨g, 0, none⟩) n cap) n (fl2 (atK T (x, u) l)) := by
  have h1 := (World.ownsRow.stored h ((l + 1) * 2) (.int .i64 y)).1
  have h2 := (World.ownsRow.stored h1 ((l + 1) * 2 + 1) v).1
  rw [fl2_set _ _ (y, v)] at h2
  have h3 := (World.ownsRow.stored h2 (l * 2) (.int .i64 x)).1
  have h4 := (World.ownsRow.stored h3 (l * 2 + 1) u).1
  rw [fl2_set _ _ (x, u)] at h4
  have hd := atK_down T (x, u) hl
  rw [hy] at hd
  rw [hd] at h4
  exact h4
theorem fl2_setN : ∀ (ts : List (Int × Value)) (i : Nat) (x : Int) (v : Value), ((fl2 ts).set (i * 2) (.int .i64 x)).set (i * 2 + 1) v = fl2 (ts.set i (x, v)) := fun ts i x v => fl2_set ts i (x, v)


set_option maxRecDepth 100000 in
set_option maxHeartbeats 8000000 in
theorem spec_l04Singles_c (w : World) (A : Option Addr) (n cap : Nat) (ws : List Int) (hl : ws.length = n) (h1 : 1 ≤ n) (hn : n ≤ 16) (hx : Sl w w.heap.size A (ws.map (Value.int .i64))) :
    Calls Try.prog 15 #[.slice A n cap] w fun e w' => ∃ v T, e = .returned v ∧ T.length = n ∧ plainT T = sortL (soloC ws) ∧ w'.ownsRow w.heap.size 42 2 v n (fl2 (cellsT T)) ∧ Num w' w.heap.size n T ∧ Below w.heap.size w w' := by
  have HX := Lib.hid hx
  clear hx
  have hsl : (soloC ws).length = n := by simp [soloC, hl]
  go_enter Try.func15, Try.ntmps15
  go_wp2
  have ho0 := ownP_empty w w.heap.size (Nat.le_refl _)
  have hb0 : Below w.heap.size w (w.alloc (.cells #[] 42)) := (Below.refl _ _).alloc (Nat.le_refl _) _
  go_loopw [3, 4] (fun v i wr => ∃ (k : Nat) (T : List Tri), k ≤ n ∧ i = .int .i64 (k : Int) ∧ T.length = k ∧ Hid (plainT T = sortL ((soloC ws).take k)) ∧ wr.ownsRow w.heap.size 42 2 v k (fl2 (cellsT T)) ∧ Hid (Num wr w.heap.size n T) ∧ Hid (Below w.heap.size w wr)) (fun _ i _ => n - (RowKit.intOf i).toNat)
  case atStart => exact ⟨0, [], Nat.zero_le _, rfl, rfl, Lib.hid rfl, ho0, Lib.hid (fun t ht => by cases ht), Lib.hid hb0⟩
  case round =>
    clear ho0 hb0
    obtain ⟨k, T, hk, rfl, hT, HP, ho, HN, HB⟩ := hrel
    obtain ⟨w1, rfl⟩ : ∃ w1 : World, w1 = wr := ⟨_, rfl⟩
    have hz1 := HB.out.size
    by_cases hlt : k < n
    · have hkw : k < ws.length := by omega
      obtain ⟨b, off, rfl, hbb, hc⟩ := (HX.out.below HB.out).get k hkw
      obtain ⟨x, hxx⟩ : ∃ x, ws[k]'hkw = x := ⟨_, rfl⟩
      rw [hxx] at hc
      have hsnoc : (soloC ws).take (k + 1) = (soloC ws).take k ++ [(x, (List.replicate n 0).set k 1)] := by
        rw [List.take_succ_eq_append_getElem (by omega)]
        congr 2
        have e : ws.getD k 0 = x := by rw [List.getD_eq_getElem?_getD, List.getElem?_eq_getElem hkw]; exact hxx
        simp only [soloC, List.getElem_map, List.getElem_range, e, hl]
      have hmk := fun W : World => run_mk (P := Try.prog) Try.underlying22 infoInt64 rfl (by decide) n (by omega) .i64 .i64 W
      have HSN := Lib.hid hsnoc
      obtain ⟨w2, e2⟩ : ∃ q : World, q = w1.alloc (.cells ((zeroRow (.int .i64 0) n).setIfInBounds k (.int .i64 1)) 2) := ⟨_, rfl⟩
      have b2 : Below w1.heap.size w1 w2 := by rw [e2]; exact (Below.refl _ _).alloc (Nat.le_refl _) _
      have hz2 : w1.heap.size + 1 ≤ w2.heap.size := by rw [e2]; simp
      have o2 : w2.ownsRow w1.heap.size 2 1 (.slice (some ⟨w1.heap.size, 0, none⟩) n n) n (((List.replicate n (0 : Int)).set k 1).map (Value.int .i64)) := by
        rw [e2]
        have h := World.ownsRow_lit (e := 2) (size := 1) w1 ((zeroRow (.int .i64 0) n).setIfInBounds k (.int .i64 1)) n (base := w1.heap.size) (Nat.le_refl _) (by unfold maxLen; omega) (by simp [zeroRow])
        have e : ((zeroRow (Value.int .i64 0) n).setIfInBounds k (.int .i64 1)).toList = ((List.replicate n (0 : Int)).set k 1).map (Value.int .i64) := by
          rw [List.map_set]
          simp [zeroRow]
        rw [e] at h
        exact h
      have hc2 := (b2.cell (p := ⟨b, off + k, none⟩) (show b < w1.heap.size by omega)).trans hc
      have ho2 := own_below ho b2 (Nat.le_refl _)
      have hbb1 : b < w1.heap.size := by omega
      have hzk : (zeroRow (.int .i64 0) n)[k]? = some (.int .i64 0) := by simp [zeroRow, hlt]
      have HO2 := Lib.hid o2
      have HN2 := Lib.hid (HN.out.below b2)
      have HB2 := Lib.hid (HB.out.trans (b2.mono hz1))
      clear hsnoc ho hxx o2 b2
      go_wp2_with (first
        | (rw [← e2]; clear e2)
        | (at_builtin; go_must (refine app1s (P := Try.prog) 2 (by decide) Try.underlying37 infoPack rfl (by decide) rfl _ _ rfl w.heap.size _ _ _ rfl (World.ownsRow.alloc ho2 _) _ _ [.int .i64 x, .slice (some ⟨w1.heap.size, 0, none⟩) n n] rfl rfl (lit2_cells _ _ _ _) (by intro u' hu'; simp at hu'; rcases hu' with rfl | rfl <;> rfl) (by omega) (by simp; omega) ?_); rintro v3 w3 ho3 hb3 hg3 ⟨g3, c3, rfl⟩))
      obtain ⟨X, hX⟩ : ∃ X : Tri, X = (x, .slice (some ⟨w1.heap.size, 0, none⟩) n n, (List.replicate n (0 : Int)).set k 1) := ⟨_, rfl⟩
      have hx1 : X.1 = x := by rw [hX]
      have hal : Below w2.heap.size w2 (w2.alloc (.cells #[.int .i64 x, .slice (some ⟨w1.heap.size, 0, none⟩) n n] 42)) := (Below.refl _ _).alloc (Nat.le_refl _) _
      have hra := World.ownsRow.alloc ho2 (.cells #[.int .i64 x, .slice (some ⟨w1.heap.size, 0, none⟩) n n] 42)
      have hnum : Num w3 w.heap.size n (X :: T) := by
        intro t ht
        rcases List.mem_cons.1 ht with rfl | ht
        · rw [hX]
          have h9 := own_base (base' := w.heap.size) (own_below HO2.out hal (Nat.le_refl _)) hz1
          exact ⟨h9.kept hg3 (own_typesM h9 hra (by decide)), by simp⟩
        · exact (((HN2.out.below hal).grown hra (by decide) hg3)) t ht
      have hrow : w3.ownsRow w.heap.size 42 2 (.slice (some ⟨g3, 0, none⟩) (k + 1) c3) (k + 1) (fl2 (atK (cellsT T) (X.1, X.2.1) k)) := by
        rw [atK_end _ _ (by simp [cellsT, hT]), fl2_app, hX]
        exact ho3
      have hbel : Below w.heap.size w w3 := (HB2.out.alloc (by omega) _).grown hg3 (by simp; omega) (fun j hj => (World.ownsRow.lt hra j hj).1)
      have HXX := Lib.hid hX
      have HNUM := Lib.hid hnum
      have HROW := Lib.hid hrow
      have HBEL := Lib.hid hbel
      clear hal hra hnum hrow hbel ho3 hb3 hg3 ho2 HO2 HN2 HB2 HN HB hX
      have hXv : X.2.1 = .slice (some ⟨w1.heap.size, 0, none⟩) n n := by rw [HXX.out]
      have hasc : Asc (plainT T) := by rw [HP.out]; exact sortL_asc _
      have HASC := Lib.hid hasc
      have HXV := Lib.hid hXv
      have HX1 := Lib.hid hx1
      clear hasc hXv hx1 hmk hzk hc hc2
      go_loopw [6] (fun i wr => ∃ l : Nat, l ≤ k ∧ i = .int .i64 (l : Int) ∧ Hid (wr.ownsRow w.heap.size 42 2 (.slice (some ⟨g3, 0, none⟩) (k + 1) c3) (k + 1) (fl2 (atK (cellsT T) (X.1, X.2.1) l))) ∧ Hid (Num wr w.heap.size n (X :: T)) ∧ Hid (∀ y ∈ T.drop l, x < y.1) ∧ Hid (Below w.heap.size w wr)) (fun i _ => (RowKit.intOf i).toNat)
      case atStart => exact ⟨k, Nat.le_refl _, rfl, HROW, HNUM, Lib.hid (by rw [List.drop_eq_nil_of_le (Nat.le_of_eq hT)]; intro y hy; cases hy), HBEL⟩
      case round =>
        obtain ⟨l, hlk, rfl, HR4, HN4, HD4, HB4⟩ := hrel
        obtain ⟨w4, rfl⟩ : ∃ w4 : World, w4 = wr := ⟨_, rfl⟩
        have hfin : ∀ W : World, Below w4.heap.size w4 W → (∀ y ∈ T.take l, y.1 ≤ x) → (Hid (plainT (atK T X l) = sortL ((soloC ws).take (k + 1))) ∧ W.ownsRow w.heap.size 42 2 (.slice (some ⟨g3, 0, none⟩) (k + 1) c3) (k + 1) (fl2 (cellsT (atK T X l))) ∧ Hid (Num W w.heap.size n (atK T X l)) ∧ Hid (Below w.heap.size w W)) := by
          intro W hW hle
          refine ⟨Lib.hid ?_, ?_, Lib.hid ?_, Lib.hid (HB4.out.trans (hW.mono HB4.out.size))⟩
          · have hs : sortL ((soloC ws).take (k + 1)) = insL (x, (List.replicate n (0 : Int)).set k 1) (sortL ((soloC ws).take k)) := by
              rw [HSN.out]
              unfold sortL
              rw [List.foldl_append]
              rfl
            rw [hs, ← HP.out, insL_at (k := l)]
            · unfold atK plainT
              rw [List.map_append, List.map_cons, HXX.out, List.map_take, List.map_drop]
            · intro y hy
              unfold plainT at hy
              rw [← List.map_take] at hy
              obtain ⟨t, ht, rfl⟩ := List.mem_map.1 hy
              exact hle t ht
            · intro y hy
              unfold plainT at hy
              rw [← List.map_drop] at hy
              obtain ⟨t, ht, rfl⟩ := List.mem_map.1 hy
              exact HD4.out t ht
          · rw [cellsT_atK]
            exact own_below HR4.out hW (Nat.le_refl _)
          · intro t ht
            refine (HN4.out.below hW) t ?_
            unfold atK at ht
            rcases List.mem_append.1 ht with ht | ht
            · exact List.mem_cons_of_mem _ (List.mem_of_mem_take ht)
            · rcases List.mem_cons.1 ht with rfl | ht
              · exact List.mem_cons_self
              · exact List.mem_cons_of_mem _ (List.mem_of_mem_drop ht)
        have HFIN := Lib.hid hfin
        have hat : (atK T X l).length = k + 1 := by rw [atK_len _ _ (by omega), hT]
        clear hfin
        by_cases hl0 : l = 0
        · subst hl0
          have hb0 : decide ((0 : Int) < 0) = false := rfl
          go_wp2_with fail
          go_quiet (fail)
          go_wp2_with fail
          go_roundw
          case rel =>
            obtain ⟨f1, f2, f3, f4⟩ := HFIN.out (w4.drewN _) (below_of_drewN _ _ _) (by intro y hy; cases hy)
            exact ⟨k + 1, atK T X 0, hlt, by go_num, hat, f1, f2, f3, f4⟩
          case measure => simp [RowKit.intOf]; omega
        · obtain ⟨m, hm⟩ : ∃ m, m + 1 = l := ⟨l - 1, by omega⟩
          have hmT : m < T.length := by omega
          have k0 := pack_cells HR4.out (i := l) (atK_here (cellsT T) (X.1, X.2.1) (by simp [cellsT]; omega))
          have hb := atK_before (cellsT T) (X.1, X.2.1) (k := l) (l := m) (by simp [cellsT]; omega) (by omega)
          have hcm : (cellsT T)[m]'(by simp [cellsT]; omega) = (T[m].1, T[m].2.1) := by simp [cellsT]
          rw [hcm] at hb
          have k1 := pack_cells HR4.out hb
          have hTm := HN4.out T[m] (List.mem_cons_of_mem _ (List.getElem_mem hmT))
          have htk : T.take l = T.take m ++ [T[m]] := by rw [← hm]; exact List.take_succ_eq_append_getElem hmT
          have hdr : T.drop m = T[m] :: T.drop l := by rw [← hm]; exact List.drop_eq_getElem_cons hmT
          have hta : ∀ y ∈ T.take m, y.1 ≤ T[m].1 := by
            intro y hy
            obtain ⟨i, hi, rfl⟩ := List.mem_iff_getElem.1 hy
            have him : i < m := by simp at hi; omega
            have hp := List.pairwise_iff_getElem.1 (show (plainT T).Pairwise _ from HASC.out) i m (by simp [plainT]; omega) (by simp [plainT]; omega) him
            simpa [plainT] using hp
          obtain ⟨⟨y, v2, l2⟩, eY⟩ : ∃ r, T[m] = r := ⟨_, rfl⟩
          rw [eY] at k1 hTm htk hdr hta hcm
          simp only at k1 hTm hta
          obtain ⟨g2, c2, rfl, _, _⟩ := World.ownsRow.form hTm.1 (by omega)
          rw [HXV.out, HX1.out] at k0
          have hgl := (HR4.out.lt g3 rfl).2
          have f0 := World.ownsRow.frozenAt HR4.out (l * 2)
          have f1 := World.ownsRow.frozenAt HR4.out (l * 2 + 1)
          have f2 := World.ownsRow.frozenAt HR4.out (m * 2)
          have f3 := World.ownsRow.frozenAt HR4.out (m * 2 + 1)
          obtain ⟨k00, k01⟩ := k0
          obtain ⟨k10, k11⟩ := k1
          have hw1 : IntKind.i64.wrap ((l : Int) - 1) = (m : Int) := by rw [IntWalk.i64_in _ (by omega)]; omega
          have hw2 : wrap64 ((l : Int) - 1) = (m : Int) := by rw [IntWalk.wrap64_in _ (by omega)]; omega
          have q1 : (0 : Int) ≤ (l : Int) := by omega
          have q2 : (l : Int) < ((k : Int) + 1) := by omega
          have q3 : (0 : Int) ≤ (m : Int) := by omega
          have q4 : (m : Int) < ((k : Int) + 1) := by omega
          have q5 : decide ((0 : Int) < (l : Int)) = true := decide_eq_true (by omega)
          have q6 : decide (0 < l) = true := decide_eq_true (by omega)
          have hn1 : ¬ l = m := by omega
          have hn2 : ¬ l * 2 = m * 2 := by omega
          have hn3 : ¬ l * 2 + 1 = m * 2 := by omega
          have hn4 : ¬ l * 2 = m * 2 + 1 := by omega
          have HTK := Lib.hid htk
          have HDR := Lib.hid hdr
          have HTA := Lib.hid hta
          have HCM := Lib.hid hcm
          have HMM := Lib.hid hm
          clear htk hdr hta hTm hb hcm eY hm
          by_cases hxy : x < y
          · have hd : decide (x < y) = true := decide_eq_true hxy
            go_wp2_with fail
            go_region
            obtain ⟨w5, e5⟩ : ∃ q : World, q = w4.drewN 1 := ⟨_, rfl⟩
            have b5 : Below w4.heap.size w4 w5 := by rw [e5]; exact below_of_drewN _ _ _
            have hz5 : w5.heap.size = w4.heap.size := by rw [e5]; rfl
            have d0 : w5.cell? ⟨g3, l * 2, none⟩ = some (.int .i64 x) := by rw [e5]; exact k00
            have d1 : w5.cell? ⟨g3, l * 2 + 1, none⟩ = some (.slice (some ⟨w1.heap.size, 0, none⟩) n n) := by rw [e5]; exact k01
            have d2 : w5.cell? ⟨g3, m * 2, none⟩ = some (.int .i64 y) := by rw [e5]; exact k10
            have d3 : w5.cell? ⟨g3, m * 2 + 1, none⟩ = some (.slice (some ⟨g2, 0, none⟩) n c2) := by rw [e5]; exact k11
            have p0 : w5.frozen? ⟨g3, l * 2, none⟩ = false := by rw [e5]; exact f0
            have p1 : w5.frozen? ⟨g3, l * 2 + 1, none⟩ = false := by rw [e5]; exact f1
            have p2 : w5.frozen? ⟨g3, m * 2, none⟩ = false := by rw [e5]; exact f2
            have p3 : w5.frozen? ⟨g3, m * 2 + 1, none⟩ = false := by rw [e5]; exact f3
            have hgl5 : g3 < w5.heap.size := by rw [hz5]; exact hgl
            first | rw [← e5] | (rw [show w4.drew = w4.drewN 1 from rfl, ← e5])
            have HR5 := Lib.hid (own_below HR4.out b5 (Nat.le_refl _))
            have HN5 := Lib.hid (HN4.out.below b5)
            have HB5 := Lib.hid (HB4.out.trans (b5.mono HB4.out.size))
            have B5 := Lib.hid b5
            clear e5 hz5 b5 k00 k01 k10 k11 f0 f1 f2 f3
            have hg3w := (HR5.out.lt g3 rfl).1
            go_wp2_with fail
            go_roundw
            case rel =>
              have h5 := HR5.out
              rw [HX1.out, HXV.out, ← HMM.out] at h5
              have hs := pack_swap h5 (by simp [cellsT]; exact hmT) HCM.out
              rw [HMM.out] at hs
              have hgr := grownT (grownT (grownT (grown_setAt w5 g3 (l * 2) (.int .i64 y)) (grown_setAt _ g3 (l * 2 + 1) (.slice (some ⟨g2, 0, none⟩) n c2))) (grown_setAt _ g3 (m * 2) (.int .i64 x))) (grown_setAt _ g3 (m * 2 + 1) (.slice (some ⟨w1.heap.size, 0, none⟩) n n))
              have hnn := HN5.out.grown (v2 := .slice (some ⟨g3, 0, none⟩) (k + 1) c3) HR5.out (by decide) hgr
              have hbb := HB5.out.grown hgr HB5.out.size (fun j hj => by cases hj; exact hg3w)
              have hal := fun W : World => (Below.refl W.heap.size W).alloc (Nat.le_refl _) (.cells #[.int .i64 x, .slice (some ⟨w1.heap.size, 0, none⟩) n n] 42)
              refine ⟨m, by have := HMM.out; omega, by go_num, Lib.hid ?_, Lib.hid (hnn.below (hal _)), Lib.hid ?_, Lib.hid (hbb.trans ((hal _).mono hbb.size))⟩
              · rw [HX1.out, HXV.out]
                exact own_below hs (hal _) (Nat.le_refl _)
              · rw [HDR.out]
                intro z hz
                rcases List.mem_cons.1 hz with rfl | hz
                · exact hxy
                · exact HD4.out z hz
            case measure => have := HMM.out; simp [RowKit.intOf]; omega
          · have hd : decide (x < y) = false := decide_eq_false hxy
            go_wp2_with fail
            go_region
            obtain ⟨w5, e5⟩ : ∃ q : World, q = w4.drewN 1 := ⟨_, rfl⟩
            have b5 : Below w4.heap.size w4 w5 := by rw [e5]; exact below_of_drewN _ _ _
            have hz5 : w5.heap.size = w4.heap.size := by rw [e5]; rfl
            have d0 : w5.cell? ⟨g3, l * 2, none⟩ = some (.int .i64 x) := by rw [e5]; exact k00
            have d1 : w5.cell? ⟨g3, l * 2 + 1, none⟩ = some (.slice (some ⟨w1.heap.size, 0, none⟩) n n) := by rw [e5]; exact k01
            have d2 : w5.cell? ⟨g3, m * 2, none⟩ = some (.int .i64 y) := by rw [e5]; exact k10
            have d3 : w5.cell? ⟨g3, m * 2 + 1, none⟩ = some (.slice (some ⟨g2, 0, none⟩) n c2) := by rw [e5]; exact k11
            have p0 : w5.frozen? ⟨g3, l * 2, none⟩ = false := by rw [e5]; exact f0
            have p1 : w5.frozen? ⟨g3, l * 2 + 1, none⟩ = false := by rw [e5]; exact f1
            have p2 : w5.frozen? ⟨g3, m * 2, none⟩ = false := by rw [e5]; exact f2
            have p3 : w5.frozen? ⟨g3, m * 2 + 1, none⟩ = false := by rw [e5]; exact f3
            have hgl5 : g3 < w5.heap.size := by rw [hz5]; exact hgl
            first | rw [← e5] | (rw [show w4.drew = w4.drewN 1 from rfl, ← e5])
            have HR5 := Lib.hid (own_below HR4.out b5 (Nat.le_refl _))
            have HN5 := Lib.hid (HN4.out.below b5)
            have HB5 := Lib.hid (HB4.out.trans (b5.mono HB4.out.size))
            have B5 := Lib.hid b5
            clear e5 hz5 b5 k00 k01 k10 k11 f0 f1 f2 f3
            go_wp2_with fail
            go_roundw
            case rel =>
              obtain ⟨f1, f2, f3, f4⟩ := HFIN.out w5 B5.out (by
                rw [HTK.out]
                intro z hz
                rcases List.mem_append.1 hz with hz | hz
                · have := HTA.out z hz; omega
                · obtain rfl := List.mem_singleton.1 hz
                  simp only
                  omega)
              exact ⟨k + 1, atK T X l, hlt, by go_num, hat, f1, f2, f3, f4⟩
            case measure => simp [RowKit.intOf]; omega
    · have hkn : k = n := by omega
      subst hkn
      have HO := Lib.hid ho
      clear ho
      go_wp2
      go_ret
      refine ⟨_, T, rfl, hT, ?_, HO.out, HN.out, HB.out⟩
      rw [HP.out, List.take_of_length_le (Nat.le_of_eq hsl)]

end Go.Proofs.Ytkmfjadlobpbkaa
