/-
  Contracts of the laws' helpers for rows of saved ones: copies, sizes, comparisons; such a row opened.
  Conditions: lengths at most 1048576 where they are copied.
-/
import Derived.Test.YtmkjlhobnlgpjaaSR
namespace Go.Proofs.Ytmkjlhobnlgpjaa
open Go.RowKit

/-- a saved one: its name, its bits, its numbers, and where they lie -/
structure SavH where
  s : ByteArray
  A : Option Addr
  c : Nat
  bs : List Bool
  A2 : Option Addr
  c2 : Nat
  xs : List Nat
def savC (r : SavH) : List Value := [.string r.s, .slice r.A r.bs.length r.c, .slice r.A2 r.xs.length r.c2]
def savV (r : SavH) : Value := .agg #[.string r.s, .slice r.A r.bs.length r.c, .slice r.A2 r.xs.length r.c2]
def savCells (rs : List SavH) : List Value := rs.flatMap savC
abbrev SavD := ByteArray × List Bool × List Nat
def sd1 (r : SavH) : SavD := (r.s, r.bs, r.xs)
def sdat (rs : List SavH) : List SavD := rs.map sd1
theorem savCells_len (rs : List SavH) : (savCells rs).length = 3 * rs.length := by
  induction rs with
  | nil => rfl
  | cons r rs ih =>
    show (savC r ++ savCells rs).length = _
    rw [List.length_append, ih]
    simp [savC]
    omega
theorem savCells_snoc (rs : List SavH) (r : SavH) : savCells (rs ++ [r]) = savCells rs ++ savC r := by simp [savCells]
theorem savCells_get : ∀ {rs : List SavH} {k : Nat} (h : k < rs.length) (j : Nat), j < 3 → (savCells rs)[3 * k + j]? = (savC rs[k])[j]?
  | [], k, h, j, hj => by simp at h
  | r :: rs, 0, h, j, hj => by
    show (savC r ++ savCells rs)[3 * 0 + j]? = _
    rw [List.getElem?_append_left (by simp [savC]; omega), Nat.mul_zero, Nat.zero_add]
    rfl
  | r :: rs, k + 1, h, j, hj => by
    show (savC r ++ savCells rs)[3 * (k + 1) + j]? = _
    have hl : (savC r).length = 3 := rfl
    rw [List.getElem?_append_right (by omega), hl, show 3 * (k + 1) + j - 3 = 3 * k + j by omega, savCells_get (by simpa using h) j hj]
    rfl
/-- a row of saved ones, to be read -/
def SlS (w : World) (B : Nat) (A : Option Addr) (rs : List SavH) : Prop := Sl w B A (savCells rs) ∧ ∀ r ∈ rs, Sl w B r.A (r.bs.map Value.bool) ∧ Sl w B r.A2 (r.xs.map (Value.float .f32))
theorem SlS.below {w w' : World} {B : Nat} {A : Option Addr} {rs : List SavH} (h : SlS w B A rs) (hb : Below B w w') : SlS w' B A rs := ⟨h.1.below hb, fun r hr => ⟨(h.2 r hr).1.below hb, (h.2 r hr).2.below hb⟩⟩
theorem SlS.more {w : World} {B B' : Nat} {A : Option Addr} {rs : List SavH} (h : SlS w B A rs) (hB : B ≤ B') : SlS w B' A rs := ⟨h.1.more hB, fun r hr => ⟨(h.2 r hr).1.more hB, (h.2 r hr).2.more hB⟩⟩
theorem SlS.drewN {w : World} {B : Nat} {A : Option Addr} {rs : List SavH} (h : SlS w B A rs) (n : Nat) : SlS (w.drewN n) B A rs := h
theorem SlS.get {w : World} {B : Nat} {A : Option Addr} {rs : List SavH} (h : SlS w B A rs) (k : Nat) (hk : k < rs.length) :
    ∃ b off, A = some ⟨b, off, none⟩ ∧ b < B ∧ w.cell? ⟨b, off + k * 3, none⟩ = some (.string rs[k].s) ∧ w.cell? ⟨b, off + k * 3 + 1, none⟩ = some (.slice rs[k].A rs[k].bs.length rs[k].c) ∧ w.cell? ⟨b, off + k * 3 + 2, none⟩ = some (.slice rs[k].A2 rs[k].xs.length rs[k].c2) := by
  obtain ⟨b, off, e, hb, hc⟩ := h.1.at_ (k := 3 * k) (by rw [savCells_len]; omega)
  have g0 := hc (3 * k + 0) _ (savCells_get hk 0 (by decide))
  have g1 := hc (3 * k + 1) _ (savCells_get hk 1 (by decide))
  have g2 := hc (3 * k + 2) _ (savCells_get hk 2 (by decide))
  refine ⟨b, off, e, hb, ?_, ?_, ?_⟩
  · rw [show off + k * 3 = off + (3 * k + 0) by omega]; exact g0
  · rw [show off + k * 3 + 1 = off + (3 * k + 1) by omega]; exact g1
  · rw [show off + k * 3 + 2 = off + (3 * k + 2) by omega]; exact g2
def okSav (m : Nat) (r : SavH) : Prop := r.s.size ≤ m ∧ r.bs.length ≤ m ∧ r.xs.length ≤ m

set_option maxRecDepth 100000 in
set_option maxHeartbeats 1000000 in
theorem szSavedS_c (w : World) (B : Nat) (A : Option Addr) (n cap : Nat) (rs : List SavH) (left : Int) (h0 : 0 ≤ left) (h1 : left ≤ 1048576) (hl : rs.length = n) (hn : n ≤ 9223372036854775807) (hr : ∀ r ∈ rs, okSav 9223372036854775807 r) (hB : B ≤ w.heap.size) (hx : SlS w B A rs) :
    Calls Try.prog 9 #[.slice A n cap, .int .i64 left] w fun e w' => ∃ q : Int, e = .returned (.int .i64 q) ∧ (q = -1 ∨ (0 ≤ q ∧ q ≤ 1048576 ∧ n ≤ 1048576 ∧ ∀ r ∈ rs, okSav 1048576 r)) ∧ Below w.heap.size w w' := by
  by_cases hlt : left - n < 0
  · go_enter Try.func9, Try.ntmps9
    go_wp2
    go_ret
    exact ⟨_, rfl, .inl rfl, Below.refl _ _⟩
  · go_enter Try.func9, Try.ntmps9
    go_wp2
    go_loopw [1, 5] (fun q i wr => ∃ (k : Nat) (p : Int), k ≤ n ∧ i = .int .i64 k ∧ q = .int .i64 p ∧ 0 ≤ p ∧ p ≤ 1048576 ∧ (∀ r ∈ rs.take k, okSav 1048576 r) ∧ Below w.heap.size w wr) (fun _ i _ => n - (intOf i).toNat)
    case atStart => exact ⟨0, left - n, Nat.zero_le _, rfl, by go_num, by omega, by omega, by simp, Below.refl _ _⟩
    case round =>
      obtain ⟨k, p, hk, rfl, rfl, hp0, hp1, hp, hb⟩ := hrel
      have HP := Lib.hid hp
      clear hp
      by_cases hlt2 : k < n
      · obtain ⟨b, off, rfl, hbb, c0, c1, c2⟩ := (hx.below (hb.mono hB)).get k (by omega)
        obtain ⟨m0, m1, m2⟩ := hr (rs[k]'(by omega)) (List.getElem_mem _)
        have htk : ∀ r ∈ rs.take (k + 1), r ∈ rs.take k ∨ r = rs[k]'(by omega) := fun r hr => by
          rw [List.take_succ_eq_append_getElem (by omega), List.mem_append] at hr
          simpa using hr
        obtain ⟨r, hrr⟩ : ∃ r, rs[k]'(by omega) = r := ⟨_, rfl⟩
        rw [hrr] at c0 c1 c2 m0 m1 m2 htk
        have HT := Lib.hid htk
        have hs := szSaved_c wr r.s r.A r.bs.length r.c r.A2 r.xs.length r.c2 p hp0 hp1 m0 m1 m2
        have HS := Lib.hid hs
        clear htk hrr hs hx hr
        go_wp2_with fail
        refine HS.out.mono ?_
        rintro e w2 ⟨q, rfl, hq, hb2⟩
        rcases hq with rfl | ⟨q0, q1, q2, q3, q4⟩
        · go_wp2
          go_ret
          exact ⟨_, rfl, .inl rfl, hb.trans (hb2.mono hb.size)⟩
        · go_wp2
          go_roundw
          case rel =>
            refine ⟨k + 1, q, by omega, by go_num, rfl, q0, q1, fun r' hr' => ?_, hb.trans (hb2.mono hb.size)⟩
            rcases HT.out r' hr' with h | rfl
            · exact HP.out r' h
            · exact ⟨q2, q3, q4⟩
          case measure => simp [intOf] <;> omega
      · have : k = n := by omega
        subst this
        go_wp2
        go_ret
        refine ⟨_, rfl, .inr ⟨hp0, hp1, by omega, ?_⟩, hb⟩
        have h := HP.out
        rw [List.take_of_length_le (by omega)] at h
        exact h


theorem infoSaved : (Try.prog.info? 35).map (fun i => (i.zero, i.size, i.bytes)) = some (some (.agg #[.string ByteArray.empty, .slice none 0 0, .slice none 0 0]), 3, 64) := by kernel_rfl
/-- a copy of saved ones: all that they hold lies in rows from block B on -/
def OwnS (w : World) (B : Nat) (r : SavH) : Prop := w.ownsRow B 4 1 (.slice r.A r.bs.length r.c) r.bs.length (r.bs.map Value.bool) ∧ w.ownsRow B 58 1 (.slice r.A2 r.xs.length r.c2) r.xs.length (r.xs.map (Value.float .f32))
theorem sav_len {rs ys : List SavH} (h : sdat ys = sdat rs) : ys.length = rs.length := by
  have := congrArg List.length h
  simpa [sdat] using this
theorem slS_of_own {w : World} {base base2 : Nat} {e : TypeId} {A : Option Addr} {n cap : Nat} {ys : List SavH} (ho : w.ownsRow base e 3 (.slice A n cap) n (savCells ys)) (hin : ∀ y ∈ ys, OwnS w base2 y) : SlS w w.heap.size A ys := by
  refine ⟨?_, fun y hy => ⟨sl_of_own (hin y hy).1, sl_of_own (hin y hy).2⟩⟩
  rcases ho.2 with ⟨h1, h2⟩ | ⟨g, cap', cur, h1, _, hg, _⟩
  · left
    have := ho.1
    exact List.eq_nil_of_length_eq_zero (by rw [this, h2, Nat.zero_mul])
  · injection h1 with e1 e2 e3
    subst e1 e3
    refine .inr ⟨g, 0, rfl, (Array.getElem?_eq_some_iff.1 hg).1, fun j u hu => ?_⟩
    rw [Nat.zero_add, World.ownsRow.cellAt ho j (by rw [← ho.1]; exact (List.getElem?_eq_some_iff.1 hu).1), hu]
theorem OwnS.below {w w' : World} {B D : Nat} {r : SavH} (h : OwnS w B r) (hb : Below D w w') (hD : w.heap.size ≤ D) : OwnS w' B r := ⟨own_below h.1 hb hD, own_below h.2 hb hD⟩
theorem OwnS.base {w : World} {B B' : Nat} {r : SavH} (h : OwnS w B r) (hB : B' ≤ B) : OwnS w B' r := ⟨own_base h.1 hB, own_base h.2 hB⟩
theorem OwnS.set {w : World} {B : Nat} {r : SavH} (h : OwnS w B r) {a : Addr} (ha : a.block < B) (v : Value) : OwnS (w.setCell a v) B r := ⟨ownsRow_setCell_below h.1 ha v, ownsRow_setCell_below h.2 ha v⟩
theorem set3 (L : List Value) (m : Nat) (hL : L.length = m) (t0 t1 t2 a b c : Value) (T : List Value) : (((L ++ t0 :: t1 :: t2 :: T).set m a).set (m + 1) b).set (m + 2) c = L ++ a :: b :: c :: T := by
  subst hL
  rw [List.set_append_right _ _ (Nat.le_refl _), List.set_append_right _ _ (by omega), List.set_append_right _ _ (by omega)]
  simp

set_option maxRecDepth 100000 in
set_option maxHeartbeats 1000000 in
theorem toSavedS_c (w : World) (A : Option Addr) (n cap : Nat) (rs : List SavH) (hl : rs.length = n) (hn : n ≤ 1048576) (hr : ∀ r ∈ rs, okSav 1048576 r) (hx : SlS w w.heap.size A rs) :
    Calls Try.prog 11 #[.slice A n cap] w fun e w' => ∃ S cap2 ys, e = .returned (.slice S n cap2) ∧ sdat ys = sdat rs ∧ (∀ y ∈ ys, OwnS w' (w.heap.size + 1) y) ∧ w'.ownsRow w.heap.size 35 3 (.slice S n cap2) n (savCells ys) ∧ Below w.heap.size w w' := by
  obtain ⟨i0, hi, hz0, hz1, hz2⟩ := info_parts infoSaved
  obtain ⟨w1, hmk, hown, hgr⟩ := run_make_full (P := Try.prog) w w.heap.size 25 35 i0 _ 3 Try.underlying25 hi hz0 hz1 .i64 .i64 n (by rw [hz2]; omega) (by unfold maxLen; omega) (Nat.le_refl _)
  have hb1 : Below w.heap.size w w1 := (Below.refl _ _).grown hgr (Nat.le_refl _) (by simp)
  have hz : w.heap.size + 1 ≤ w1.heap.size := (hown.lt _ rfl).2
  have hown : w1.ownsRow w.heap.size 35 3 (.slice (some ⟨w.heap.size, 0, none⟩) n n) n ((madeCells #[.string ByteArray.empty, .slice none 0 0, .slice none 0 0] (n * 3)).toList) := hown
  have hml : ((madeCells #[.string ByteArray.empty, .slice none 0 0, .slice none 0 0] (n * 3)).toList).length = 3 * n := by rw [Array.length_toList, size_madeCells]; omega
  obtain ⟨T0, hT0⟩ : ∃ T0, (madeCells #[.string ByteArray.empty, .slice none 0 0, .slice none 0 0] (n * 3)).toList = T0 := ⟨_, rfl⟩
  rw [hT0] at hown hml
  clear hT0
  go_enter Try.func11, Try.ntmps11
  go_wp2
  clear hgr hmk
  go_loopw [4] (fun i wr => ∃ (k : Nat) (ys : List SavH) (T : List Value), k ≤ n ∧ i = .int .i64 k ∧ Hid (sdat ys = sdat (rs.take k)) ∧ Hid (∀ y ∈ ys, OwnS wr (w.heap.size + 1) y) ∧ Hid (T.length = 3 * (n - k)) ∧ wr.ownsRow w.heap.size 35 3 (.slice (some ⟨w.heap.size, 0, none⟩) n n) n (savCells ys ++ T) ∧ Below w.heap.size w wr ∧ w.heap.size + 1 ≤ wr.heap.size) (fun i _ => n - (intOf i).toNat)
  case atStart => exact ⟨0, [], T0, Nat.zero_le _, rfl, Lib.hid rfl, Lib.hid (by simp), Lib.hid hml, hown, hb1, by omega⟩
  case round =>
    clear hown hb1 hml hz
    obtain ⟨k, ys, T, hk, rfl, HD, HI, HT, ho, hb, hsz⟩ := hrel
    have hyl : ys.length = k := by rw [sav_len HD.out, List.length_take]; omega
    by_cases hlt : k < n
    · obtain ⟨b, off, rfl, hbb, c0, c1, c2⟩ := (hx.below hb).get k (by omega)
      obtain ⟨s1, s2⟩ := (hx.below hb).2 (rs[k]'(by omega)) (List.getElem_mem _)
      obtain ⟨m0, m1, m2⟩ := hr (rs[k]'(by omega)) (List.getElem_mem _)
      have hdk : sdat (rs.take (k + 1)) = sdat (rs.take k) ++ [sd1 (rs[k]'(by omega))] := by
        rw [List.take_succ_eq_append_getElem (by omega)]; unfold sdat; rw [List.map_append]; rfl
      obtain ⟨r, hrr⟩ : ∃ r, rs[k]'(by omega) = r := ⟨_, rfl⟩
      rw [hrr] at c0 c1 c2 m0 m1 m2 s1 s2 hdk
      have hTl := HT.out
      obtain ⟨t0, t1, t2, T', rfl⟩ : ∃ t0 t1 t2 T', T = t0 :: t1 :: t2 :: T' := by
        match T, hTl with
        | [], h => simp at h; omega
        | [_], h => simp at h; omega
        | [_, _], h => simp at h; omega
        | a :: b :: c :: T', _ => exact ⟨a, b, c, T', rfl⟩
      have hTl2 : T'.length = 3 * (n - (k + 1)) := by simp at hTl; omega
      have HDK := Lib.hid hdk
      have HT2 := Lib.hid hTl2
      have hs := toSaved_c wr r.s r.A r.bs.length r.c r.bs rfl m1 (s1.more hb.size) r.A2 r.xs.length r.c2 r.xs rfl m2 (s2.more hb.size)
      have HS := Lib.hid hs
      have HYL := Lib.hid hyl
      clear hdk hrr hr hx hs hTl hTl2 hyl
      go_wp2_with fail
      refine HS.out.mono ?_
      rintro e w2 ⟨v1, v2, rfl, o1, o2, hb2⟩
      obtain ⟨S1, q1, rfl, hp1⟩ := o1.opn
      obtain ⟨S2, q2, rfl, hp2⟩ := o2.opn
      have ho3 := own_below ho hb2 (Nat.le_refl _)
      have z2 := hb2.size
      have hcl : (savCells ys).length = k * 3 := by rw [savCells_len, HYL.out]; omega
      have d0 : w2.cell? ⟨w.heap.size, k * 3, none⟩ = some t0 := by
        rw [ho3.cellAt (k * 3) (by omega), List.getElem?_append_right (by omega), hcl, Nat.sub_self]; rfl
      have d1 : w2.cell? ⟨w.heap.size, k * 3 + 1, none⟩ = some t1 := by
        rw [ho3.cellAt (k * 3 + 1) (by omega), List.getElem?_append_right (by omega), hcl, show k * 3 + 1 - k * 3 = 1 by omega]; rfl
      have d2 : w2.cell? ⟨w.heap.size, k * 3 + 2, none⟩ = some t2 := by
        rw [ho3.cellAt (k * 3 + 2) (by omega), List.getElem?_append_right (by omega), hcl, show k * 3 + 2 - k * 3 = 2 by omega]; rfl
      have f0 := ho3.frozenAt (k * 3)
      have f1 := ho3.frozenAt (k * 3 + 1)
      have f2 := ho3.frozenAt (k * 3 + 2)
      have g3 := (((ho3.stored (k * 3) (.string r.s)).1.stored (k * 3 + 1) (.slice S1 r.bs.length q1)).1.stored (k * 3 + 2) (.slice S2 r.xs.length q2)).1
      rw [set3 _ _ hcl] at g3
      have H3 := Lib.hid g3
      have HO1 := Lib.hid hp1
      have HO2 := Lib.hid hp2
      have HCL := Lib.hid hcl
      clear g3 hcl ho3 o1 o2 hp1 hp2 ho
      go_wp2
      go_roundw
      case rel =>
        refine ⟨k + 1, ys ++ [⟨r.s, S1, q1, r.bs, S2, q2, r.xs⟩], T', by omega, by go_num, Lib.hid ?_, Lib.hid ?_, HT2, ?_, ?_, ?_⟩
        · rw [HDK.out, ← HD.out]
          unfold sdat
          rw [List.map_append]
          rfl
        · intro y hy
          rw [List.mem_append] at hy
          rcases hy with hy | hy
          · exact (((((HI.out y hy).below hb2 (Nat.le_refl _)).set (Nat.lt_succ_self _) _).set (Nat.lt_succ_self _) _).set (Nat.lt_succ_self _) _)
          · obtain rfl : y = ⟨r.s, S1, q1, r.bs, S2, q2, r.xs⟩ := by simpa using hy
            have h5 : OwnS w2 (w.heap.size + 1) ⟨r.s, S1, q1, r.bs, S2, q2, r.xs⟩ := ⟨own_base HO1.out hsz, own_base HO2.out hsz⟩
            exact (((h5.set (Nat.lt_succ_self _) _).set (Nat.lt_succ_self _) _).set (Nat.lt_succ_self _) _)
        · rw [savCells_snoc, List.append_assoc]
          exact H3.out
        · exact (((hb.trans (hb2.mono hb.size)).setCell (p := ⟨w.heap.size, k * 3, none⟩) (Nat.le_refl _) _).setCell (p := ⟨w.heap.size, k * 3 + 1, none⟩) (Nat.le_refl _) _).setCell (p := ⟨w.heap.size, k * 3 + 2, none⟩) (Nat.le_refl _) _
        · simp; omega
      case measure => simp [intOf] <;> omega
    · obtain rfl : k = n := by omega
      have hd := HD.out
      rw [List.take_of_length_le (by omega)] at hd
      have hT := HT.out
      obtain rfl : T = [] := List.eq_nil_of_length_eq_zero (by rw [hT]; omega)
      rw [List.append_nil] at ho
      have HDD := Lib.hid hd
      clear hd hT hyl
      go_wp2
      go_ret
      exact ⟨_, _, ys, rfl, HDD.out, HI.out, ho, hb⟩

theorem sd_mem {rs ys : List SavH} (h : sdat ys = sdat rs) : ∀ y ∈ ys, ∃ r ∈ rs, sd1 r = sd1 y := by
  intro y hy
  have h1 : sd1 y ∈ sdat rs := by rw [← h]; exact List.mem_map_of_mem hy
  obtain ⟨r, h2, h3⟩ := List.mem_map.1 h1
  exact ⟨r, h2, h3⟩
theorem ok_copy {rs ys : List SavH} {m : Nat} (h : sdat ys = sdat rs) (hr : ∀ r ∈ rs, okSav m r) : ∀ y ∈ ys, okSav m y := by
  intro y hy
  obtain ⟨r, h2, h3⟩ := sd_mem h y hy
  injection h3 with e1 e2
  injection e2 with e2 e3
  obtain ⟨a, b, c⟩ := hr r h2
  exact ⟨by rw [← e1]; exact a, by rw [← e2]; exact b, by rw [← e3]; exact c⟩
theorem wf_copy {rs ys : List SavH} (h : sdat ys = sdat rs) (hr : ∀ r ∈ rs, ∀ x ∈ r.xs, x < 4294967296) : ∀ y ∈ ys, ∀ x ∈ y.xs, x < 4294967296 := by
  intro y hy x hx
  obtain ⟨r, h2, h3⟩ := sd_mem h y hy
  injection h3 with e1 e2
  injection e2 with e2 e3
  exact hr r h2 x (by rw [e3]; exact hx)


theorem sd_get {rs ys : List SavH} (h : sdat rs = sdat ys) {k : Nat} (h1 : k < rs.length) (h2 : k < ys.length) : rs[k].s = ys[k].s ∧ rs[k].bs = ys[k].bs ∧ rs[k].xs = ys[k].xs := by
  have h3 : (sdat rs)[k]? = (sdat ys)[k]? := by rw [h]
  simp only [sdat, List.getElem?_map, List.getElem?_eq_getElem h1, List.getElem?_eq_getElem h2, Option.map_some, Option.some.injEq, sd1, Prod.mk.injEq] at h3
  exact h3
set_option maxRecDepth 100000 in
set_option maxHeartbeats 1000000 in
theorem eqSavedS_t (w : World) (A B : Option Addr) (n cap cap' : Nat) (rs ys : List SavH) (hd : sdat rs = sdat ys) (hl : rs.length = n) (hn : n ≤ 1048576) (hr : ∀ r ∈ rs, okSav 1048576 r) (hx : SlS w w.heap.size A rs) (hy : SlS w w.heap.size B ys) :
    Calls Try.prog 13 #[.slice A n cap, .slice B n cap'] w fun e w' => e = .returned (.bool true) ∧ Below w.heap.size w w' := by
  have hl2 : ys.length = n := by rw [← sav_len hd, hl]
  go_enter Try.func13, Try.ntmps13
  go_wp2
  go_loopw [5] (fun i wr => ∃ k : Nat, k ≤ n ∧ i = .int .i64 k ∧ Below w.heap.size w wr) (fun i _ => n - (intOf i).toNat)
  case atStart => exact ⟨0, Nat.zero_le _, rfl, Below.refl _ _⟩
  case round =>
    obtain ⟨k, hk, rfl, hb⟩ := hrel
    by_cases hlt : k < n
    · have hzr := hb.size
      obtain ⟨b, off, rfl, hbb, c0, c1, c2⟩ := (hx.below hb).get k (by omega)
      obtain ⟨b', off', rfl, hbb', d0, d1, d2⟩ := (hy.below hb).get k (by omega)
      obtain ⟨s1, s2⟩ := (hx.below hb).2 (rs[k]'(by omega)) (List.getElem_mem _)
      obtain ⟨t1, t2⟩ := (hy.below hb).2 (ys[k]'(by omega)) (List.getElem_mem _)
      obtain ⟨m0, m1, m2⟩ := hr (rs[k]'(by omega)) (List.getElem_mem _)
      obtain ⟨g0, g1, g2⟩ := sd_get hd (k := k) (by omega) (by omega)
      obtain ⟨⟨a0, a1, a2, a3, a4, a5, a6⟩, hrr⟩ : ∃ r, rs[k]'(by omega) = r := ⟨_, rfl⟩
      obtain ⟨⟨e0, e1, e2, e3, e4, e5, e6⟩, hyy⟩ : ∃ r, ys[k]'(by omega) = r := ⟨_, rfl⟩
      rw [hrr] at c0 c1 c2 s1 s2 m1 m2 g0 g1 g2
      rw [hyy] at d0 d1 d2 t1 t2 g0 g1 g2
      simp only at c0 c1 c2 s1 s2 m1 m2 d0 d1 d2 t1 t2 g0 g1 g2
      subst g0 g1 g2
      clear m0 hd hrr hyy hr hx hy hl hl2
      go_wp2_with fail
      go_region_held3 (fun w' => w'.cell? ⟨b, off + k * 3, none⟩ = some (.string a0) ∧ w'.cell? ⟨b, off + k * 3 + 1, none⟩ = some (.slice a1 a3.length a2) ∧ w'.cell? ⟨b, off + k * 3 + 2, none⟩ = some (.slice a4 a6.length a5) ∧ w'.cell? ⟨b', off' + k * 3, none⟩ = some (.string a0) ∧ w'.cell? ⟨b', off' + k * 3 + 1, none⟩ = some (.slice e1 a3.length e2) ∧ w'.cell? ⟨b', off' + k * 3 + 2, none⟩ = some (.slice e4 a6.length e5))
        (first | exact ⟨c0', c1', c2', d0', d1', d2'⟩ | exact ⟨c0, c1, c2, d0, d1, d2⟩)
        (first
          | (go_at_call 18; refine (eqSaved_t wr.drew a0 a1 e1 a3.length a2 e2 a3 rfl (Nat.le_trans m1 (by decide)) (s1.more hzr) (t1.more hzr) a4 e4 a6.length a5 e5 a6 rfl (Nat.le_trans m2 (by decide)) (s2.more hzr) (t2.more hzr)).mono ?_; rintro e w9 ⟨rfl, hb9⟩; have hb9 := below_undrew hb9; have c0' := (hb9.cell (p := ⟨b, off + k * 3, none⟩) (by simp only []; omega)).trans c0; have c1' := (hb9.cell (p := ⟨b, off + k * 3 + 1, none⟩) (by simp only []; omega)).trans c1; have c2' := (hb9.cell (p := ⟨b, off + k * 3 + 2, none⟩) (by simp only []; omega)).trans c2; have d0' := (hb9.cell (p := ⟨b', off' + k * 3, none⟩) (by simp only []; omega)).trans d0; have d1' := (hb9.cell (p := ⟨b', off' + k * 3 + 1, none⟩) (by simp only []; omega)).trans d1; have d2' := (hb9.cell (p := ⟨b', off' + k * 3 + 2, none⟩) (by simp only []; omega)).trans d2))
      go_wp2
      go_roundw
      case rel => exact ⟨k + 1, by omega, by go_num, hb.trans (hb9.mono hb.size)⟩
      case measure => simp [intOf] <;> omega
    · obtain rfl : k = n := by omega
      go_wp2
      go_ret
      exact ⟨rfl, hb⟩

end Go.Proofs.Ytmkjlhobnlgpjaa
