/-
  Contracts: lists of whole numbers read, of both.
  Conditions: texts of at most 1048576 bytes; the tables and variables of the library lie there.
-/
import Derived.Test.YtajobeajmndglaaDoorDI
import Derived.Test.YtajobeajmndglaaDoorLO
import Derived.Test.YtajobeajmndglaaDoorH
namespace Go.Proofs.YtajobeajmndglaaDoor
open Go.RowKit

theorem cutL_mem (c : UInt8) : ∀ (l : List UInt8), ∀ x ∈ cutL c l, x.length ≤ l.length
  | [], x, h => by
    obtain rfl : x = [] := by simpa [cutL] using h
    exact Nat.le_refl _
  | b :: l, x, h => by
    have ih := cutL_mem c l
    rw [cutL] at h
    split at h
    · rcases List.mem_cons.1 h with rfl | h
      · exact Nat.zero_le _
      · have := ih x h
        simp only [List.length_cons]
        omega
    · cases hc : cutL c l with
      | nil => exact absurd hc (cutL_ne _ _)
      | cons y ys =>
        rw [hc] at h ih
        simp only [List.headD_cons, List.tail_cons] at h
        rcases List.mem_cons.1 h with rfl | h
        · have := ih y List.mem_cons_self
          simp only [List.length_cons]
          omega
        · have := ih x (List.mem_cons_of_mem _ h)
          simp only [List.length_cons]
          omega
theorem add_atK (g j : Nat) : (⟨g, 0, none⟩ : Addr).add j = ⟨g, j, none⟩ := by unfold Addr.add; split <;> simp_all
theorem appGK {P : Program} {t e : TypeId} (ht : P.underlying t = some (.slice e)) {z : Value} {bytes : Nat} (hi : (P.info? e).map (fun i => (i.zero, i.size, i.bytes)) = some (some z, 1, bytes)) (hz : z.cells.size = 1) (hby : bytes ≤ 64)
    {w : World} {ops : Array Oper} {rest : List Oper} {o : Oper} {a : Act} {Q : Exit → Act → World → Prop} (hgd : o.guard = none) (s x : Operand)
    (ho : o.op = .call { callee := .builtin .append, args := #[s, x], argTypes := #[t, t] }) (base : Nat) (v : Value) (xs : List Value) (hs : a.eval s = v) (hown : Ow w base e v xs)
    (g c : Nat) (u : Value) (hx : a.eval x = .slice (some ⟨g, 0, none⟩) 1 c) (hc : w.cell? ⟨g, 0, none⟩ = some u) (h1 : u.oneCell' = true)
    (hlen : xs.length + 1 ≤ 1099511627776) (hbase : base ≤ w.heap.size)
    (h : ∀ v' w', Ow w' base e v' (xs ++ [u]) → w.grownBy w' v.ownBlock → wpList P ops Q rest (a.put o.dst v') w') : wpList P ops Q (o :: rest) a w := by
  obtain ⟨i, hi1, hi2, hi3, hi4⟩ := info_ok hi
  refine wpList_append_own (P := P) w hgd s x t ho base e i z 1 bytes ht hi1 hi2 hi3 hi4 hz (by decide) v xs.length xs hs hown ⟨g, 0, none⟩ 1 c [u] hx (by simp) ?_ (by simpa using h1) ?_ ?_ hbase ?_
  · intro j u' hu
    rw [add_atK]
    cases j with
    | zero => cases hu; exact hc
    | succ j => cases hu
  · unfold maxLen; omega
  · have h2 : (xs.length + 1) * bytes ≤ 1099511627776 * 64 := Nat.mul_le_mul hlen hby
    omega
  · intro v' w' h2 h3 _
    refine h v' w' ?_ h3
    unfold Ow
    rw [List.length_append, List.length_singleton]
    exact h2
theorem own_typesK {W : World} {b1 b2 s1 s2 k1 k2 : Nat} {e1 e2 : TypeId} {v1 v2 : Value} {x1 x2 : List Value} (h1 : W.ownsRow b1 e1 s1 v1 k1 x1) (h2 : W.ownsRow b2 e2 s2 v2 k2 x2) (hne : e1 ≠ e2) : v1.ownBlock = none ∨ v1.ownBlock ≠ v2.ownBlock := by
  rcases h1.2 with ⟨rfl, _⟩ | ⟨g, cap, cur, rfl, _, hgb, _⟩
  · exact .inl rfl
  · refine .inr fun e' => ?_
    rcases h2.2 with ⟨rfl, _⟩ | ⟨g', cap', cur', rfl, _, hgb', _⟩
    · simp [Value.ownBlock] at e'
    · obtain rfl : g = g' := by simpa [Value.ownBlock] using e'
      have := hgb.symm.trans hgb'
      simp at this
      exact hne this.2
/-- the pieces of a list's text -/
def noneS : ByteArray := ⟨#[110, 111, 110, 101]⟩
def pcs (s : ByteArray) : List (List UInt8) := if s = noneS then [] else cutL 44 s.data.toList
theorem pcs_len (s : ByteArray) : (pcs s).length ≤ s.size + 1 := by
  unfold pcs
  split
  · exact Nat.zero_le _
  · have := cutL_len 44 s.data.toList
    rwa [size_listI] at this
theorem pcs_mem {s : ByteArray} {l : List UInt8} (h : l ∈ pcs s) : l.length ≤ s.size := by
  unfold pcs at h
  split at h
  · cases h
  · have := cutL_mem 44 s.data.toList l h
    rwa [size_listI] at this
noncomputable def valsL : List (List UInt8) → Option (List Int)
  | [] => some []
  | l :: ls => match valZ ⟨l.toArray⟩ with
    | none => none
    | some n => (valsL ls).map (n :: ·)
theorem valsL_len : ∀ (P : List (List UInt8)) (D : List Int), valsL P = some D → D.length = P.length
  | [], D, h => by
    simp only [valsL, Option.some.injEq] at h
    subst h
    rfl
  | l :: ls, D, h => by
    simp only [valsL] at h
    split at h
    · cases h
    · obtain ⟨D', h1, h2⟩ := Option.map_eq_some_iff.1 h
      subst h2
      have := valsL_len ls D' h1
      simp only [List.length_cons]
      omega
def ValsAt (P : List (List UInt8)) (D : List Int) (R : List (List UInt8)) : Prop := valsL P = (valsL R).map (D ++ ·)
theorem valsAt_start (P : List (List UInt8)) : ValsAt P [] P := by
  unfold ValsAt
  cases valsL P <;> simp
theorem valsAt_step {P R : List (List UInt8)} {D : List Int} {l : List UInt8} {n : Int} (h : ValsAt P D (l :: R)) (hv : valZ ⟨l.toArray⟩ = some n) : ValsAt P (D ++ [n]) R := by
  unfold ValsAt at h ⊢
  rw [h]
  simp only [valsL, hv]
  cases valsL R <;> simp
theorem valsAt_stop {P R : List (List UInt8)} {D : List Int} {l : List UInt8} (h : ValsAt P D (l :: R)) (hv : valZ ⟨l.toArray⟩ = none) : valsL P = none := by
  unfold ValsAt at h
  rw [h]
  simp [valsL, hv]
theorem valsAt_end {P : List (List UInt8)} {D : List Int} (h : ValsAt P D []) : valsL P = some D := by
  unfold ValsAt at h
  rw [h]
  simp [valsL]
/-- a list that may be none, as two results -/
def LzPost (w : World) (o : Option (List Int)) (e : Ending) (w' : World) : Prop := ∃ v, e = .returned (.tuple #[v, .bool o.isSome]) ∧ Ow w' w.heap.size 2 v ((o.getD []).map (Value.int .i64)) ∧ Below w.heap.size w w'
theorem own_nil (w : World) (base : Nat) (e : TypeId) : Ow w base e (.slice none 0 0) [] := ⟨rfl, .inl ⟨rfl, rfl⟩⟩


set_option maxRecDepth 100000 in
theorem impl_pieces_c (w : World) (s : ByteArray) (hs : s.size ≤ 1048576) (hm : maxLenOk w) :
    Calls Tryd.prog 38 #[.string s] w fun e w' => ∃ A, e = .returned (.slice A (pcs s).length (pcs s).length) ∧ w'.ownsRow w.heap.size 9 1 (.slice A (pcs s).length (pcs s).length) (pcs s).length ((pcs s).map strV) ∧ Below w.heap.size w w' := by
  by_cases hno : s = noneS
  · have e1 : pcs s = [] := by unfold pcs; rw [if_pos hno]
    rw [e1]
    clear e1
    subst hno
    unfold noneS
    go_enter Tryd.func38, Tryd.ntmps38
    go_wp2
    go_ret
    exact ⟨none, rfl, ⟨rfl, .inl ⟨rfl, rfl⟩⟩, Below.refl _ _⟩
  · have e1 : pcs s = cutL 44 s.data.toList := by unfold pcs; rw [if_neg hno]
    rw [e1]
    clear e1
    have HS := Lib.hid (Split_c w s 44 hs hm)
    have hcb : (s.toList == [110, 111, 110, 101]) = false := by
      have h := cmpB_no hno
      have e : noneS.toList = [110, 111, 110, 101] := ByteArray.toList_mk _
      rw [e] at h
      exact h
    clear hno
    go_enter Tryd.func38, Tryd.ntmps38
    go_wp2_with (go_at_call 51; refine HS.out.mono ?_; rintro e w1 ⟨A, rfl, ho, hb⟩)
    go_ret
    exact ⟨A, rfl, ho, hb⟩


set_option maxRecDepth 100000 in
set_option maxHeartbeats 1000000 in
theorem impl_readList_c (w : World) (s : ByteArray) (hs : s.size ≤ 1048576) (hm : maxLenOk w) (ht : Tab w) (he : Errs w) :
    Calls Tryd.prog 27 #[.string s] w (LzPost w (valsL (pcs s))) := by
  unfold LzPost
  have HT := Lib.hid ht
  have HE := Lib.hid he
  have hml := hm.lt
  have HPI := Lib.hid (fun W (hW : Below w.heap.size w W) => impl_pieces_c W s hs (hm.below hW hml))
  have hln := pcs_len s
  have HMEM := Lib.hid (fun l (h : l ∈ pcs s) => pcs_mem (s := s) h)
  obtain ⟨P, hP⟩ : ∃ P, pcs s = P := ⟨_, rfl⟩
  rw [hP] at HPI hln HMEM ⊢
  obtain ⟨n, hn⟩ : ∃ n, P.length = n := ⟨_, rfl⟩
  rw [hn] at HPI hln
  clear hP ht he hm
  go_enter Tryd.func27, Tryd.ntmps27
  go_wp2_with (go_at_call 38; refine (HPI.out _ ((Below.refl _ _).alloc (Nat.le_refl _) _)).mono ?_; rintro e w1 ⟨A, rfl, hp, hb1⟩)
  have B0 : Below w.heap.size w (w.alloc (.cells #[] 2)) := (Below.refl _ _).alloc (Nat.le_refl _) _
  have B1 : Below w.heap.size w w1 := B0.trans (hb1.mono B0.size)
  have ho1 := own_below (own_empty w w.heap.size 2 (Nat.le_refl _)) hb1 (Nat.le_refl _)
  have hp1 := own_base hp B0.size
  have HO1 := Lib.hid ho1
  have HP1 := Lib.hid hp1
  clear hp ho1 hp1 HPI
  go_wp2
  go_loopw [4, 13] (fun v i wr => ∃ (k : Nat) (D : List Int), k ≤ n ∧ i = .int .i64 k ∧ Hid (ValsAt P D (P.drop k)) ∧ D.length ≤ k ∧ Hid (Ow wr w.heap.size 2 v (D.map (Value.int .i64))) ∧ Hid (wr.ownsRow w.heap.size 9 1 (.slice A n n) n (P.map strV)) ∧ Below w.heap.size w wr) (fun _ i _ => n - (intOf i).toNat)
  case atStart => exact ⟨0, [], Nat.zero_le _, rfl, Lib.hid (valsAt_start _), Nat.le_refl _, HO1, HP1, B1⟩
  case round =>
    clear HO1 HP1 hb1 B1
    obtain ⟨k, D, hk, rfl, HV, hDl, HO, HPP, hb⟩ := hrel
    have hz := hb.size
    by_cases hlt : k < n
    · obtain ⟨g, c', hv, hbg, hgs⟩ := HPP.out.form (by omega)
      injection hv with hv hv2 hv3
      subst hv
      clear hv2 hv3
      have hcx := HPP.out.cellAt k (by omega)
      rw [List.getElem?_map, List.getElem?_eq_getElem (by omega)] at hcx
      have hR := HV.out
      rw [List.drop_eq_getElem_cons (by omega)] at hR
      have hxl := HMEM.out _ (List.getElem_mem (l := P) (n := k) (by omega))
      generalize P[k]'(by omega) = l at hcx hR hxl
      have hcx2 : wr.cell? ⟨g, k, none⟩ = some (.string ⟨l.toArray⟩) := hcx
      have hxs : (⟨l.toArray⟩ : ByteArray).size ≤ 1048576 := by show l.toArray.size ≤ _; rw [List.size_toArray]; omega
      have HRD := Lib.hid (impl_ReadDecimal_c wr ⟨l.toArray⟩ hxs (HT.out.below hb (Nat.le_refl _)) (HE.out.below hb (Nat.le_refl _)))
      have HR2 := Lib.hid hR
      clear hcx hR hxl hxs
      unfold vz at HRD
      cases hvz : valZ ⟨l.toArray⟩ with
      | none =>
        have HS := Lib.hid (valsAt_stop HR2.out hvz)
        rw [hvz] at HRD
        clear hvz HR2
        go_wp2_with (go_at_call 23; refine HRD.out.mono ?_; rintro e w2 ⟨rfl, hb2⟩)
        go_ret2
        exact ⟨.slice none 0 0, by rw [HS.out]; rfl, by rw [HS.out]; exact own_nil _ _ _, hb.trans (hb2.mono hz)⟩
      | some m =>
        have HS := Lib.hid (valsAt_step HR2.out hvz)
        rw [hvz] at HRD
        have hlen : (D.map (Value.int .i64)).length + 1 ≤ 1099511627776 := by rw [List.length_map]; omega
        have hst : (D.map (Value.int .i64)) ++ [Value.int .i64 m] = (D ++ [m]).map (Value.int .i64) := by rw [List.map_append]; rfl
        have HST := Lib.hid hst
        clear hvz HR2 hst
        go_wp2_with (first
          | (go_at_call 23; refine HRD.out.mono ?_; rintro e w2 ⟨rfl, hb2⟩; have hz2 := hb2.size; have ho2 := own_below HO.out hb2 (Nat.le_refl _); have hp2 := own_below HPP.out hb2 (Nat.le_refl _))
          | (at_builtin; go_must (refine appGK Tryd.underlying22 infoInt64 rfl (by decide) rfl _ _ rfl w.heap.size _ _ rfl (World.ownsRow.alloc ho2 _) _ _ _ rfl (cell_new1 _ _ _) rfl hlen (by simp; omega) ?_); intro v' w3 ho3 hg3))
        go_roundw
        case rel =>
          have hp3 := (World.ownsRow.alloc hp2 (.cells #[.int .i64 m] 2)).kept hg3 (own_typesK (World.ownsRow.alloc hp2 (.cells #[.int .i64 m] 2)) (World.ownsRow.alloc ho2 (.cells #[.int .i64 m] 2)) (by decide))
          have hB2 := (hb.trans (hb2.mono hz)).alloc (by omega : w.heap.size ≤ w2.heap.size) (.cells #[.int .i64 m] 2)
          refine ⟨k + 1, D ++ [m], by omega, by go_num, HS, by rw [List.length_append]; show D.length + 1 ≤ _; omega, Lib.hid (by rw [← HST.out]; exact ho3), Lib.hid hp3, below_marked hB2 hg3 (own_in (World.ownsRow.alloc ho2 (.cells #[.int .i64 m] 2))) (Nat.le_refl _) hB2.size⟩
        case measure => simp [intOf]; omega
    · obtain rfl : k = n := by omega
      have hR := HV.out
      rw [List.drop_of_length_le (by omega)] at hR
      have HS := Lib.hid (valsAt_end hR)
      clear hR
      go_wp2
      go_ret2
      exact ⟨_, by rw [HS.out]; rfl, by rw [HS.out]; exact HO.out, hb⟩

end Go.Proofs.YtajobeajmndglaaDoor
