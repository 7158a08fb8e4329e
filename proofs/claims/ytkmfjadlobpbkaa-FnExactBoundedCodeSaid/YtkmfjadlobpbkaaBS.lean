/-
  Contracts: packs of two, in order (the reference's).
  Conditions: 1 to 1024 packs, numbers at most 1048576.
-/
import Derived.Test.YtkmfjadlobpbkaaBQ
namespace Go.Proofs.Ytkmfjadlobpbkaa
open Go.RowKit

/-- the first k numbers added -/
def addCk (a b : List Int) (k : Nat) : List Int := (List.range a.length).map fun i => a.getD i 0 + (if i < k then b.getD i 0 else 0)
theorem addCk_zero (a b : List Int) : addCk a b 0 = a := by
  apply List.ext_getElem (by simp [addCk])
  intro i h1 h2
  simp [addCk, List.getD_eq_getElem?_getD, h2]
theorem addCk_all (a b : List Int) : addCk a b a.length = addC a b := by
  apply List.ext_getElem (by simp [addCk, addC])
  intro i h1 h2
  have hi : i < a.length := by simpa [addCk] using h1
  simp [addCk, addC, hi]
theorem addCk_len (a b : List Int) (k : Nat) : (addCk a b k).length = a.length := by simp [addCk]
theorem addCk_at (a b : List Int) {k : Nat} (h : k < a.length) : (addCk a b k)[k]? = some (a.getD k 0) := by simp [addCk, h]
theorem addCk_succ (a b : List Int) (k : Nat) : addCk a b (k + 1) = (addCk a b k).set k (a.getD k 0 + b.getD k 0) := by
  apply List.ext_getElem (by simp [addCk])
  intro i h1 h2
  rw [List.getElem_set]
  by_cases h : k = i
  · subst h; simp [addCk]
  · have h3 : (i < k + 1) = (i < k) := by apply propext; omega
    simp [addCk, h, h3]

theorem below_setCellR {D b : Nat} {w W : World} (h : Below D w W) (hb : D ≤ b) (o : Nat) (v : Value) : Below D w (W.setCell ⟨b, o, none⟩ v) := Below.setCell h (by simpa using hb) _


set_option maxRecDepth 100000 in
set_option maxHeartbeats 8000000 in
theorem spec_l04Paired_c (w : World) (base g m cap n : Nat) (T : List Tri) (hT : T.length = m) (hm : m ≤ 1024) (hn : 1 ≤ n) (hn2 : n ≤ 1024) (ho : w.ownsRow base 42 2 (.slice (some ⟨g, 0, none⟩) m cap) m (fl2 (cellsT T))) (hN : Num w base n T)
    (hw : ∀ t ∈ T, 0 ≤ t.1 ∧ t.1 ≤ 1099511627776) (hc : ∀ t ∈ T, ∀ x ∈ t.2.2, 0 ≤ x ∧ x ≤ 1048576) :
    Calls Try.prog 17 #[.slice (some ⟨g, 0, none⟩) m cap] w fun e w' => ∃ v T', e = .returned v ∧ T'.length = m / 2 ∧ plainT T' = pairL addC (plainT T) ∧ w'.ownsRow w.heap.size 42 2 v (m / 2) (fl2 (cellsT T')) ∧ Num w' w.heap.size n T' ∧ Below w.heap.size w w' := by
  have hg := (ho.lt g rfl).2
  have HO := Lib.hid ho
  have HN := Lib.hid hN
  have HW := Lib.hid hw
  have HC := Lib.hid hc
  clear ho hN hw hc
  go_enter Try.func17, Try.ntmps17
  go_wp2
  have ho0 := ownP_empty w w.heap.size (Nat.le_refl _)
  have hb0 : Below w.heap.size w (w.alloc (.cells #[] 42)) := (Below.refl _ _).alloc (Nat.le_refl _) _
  go_loopw [3, 4] (fun v i wr => ∃ (j : Nat) (T2 : List Tri), 2 * j ≤ m ∧ i = .int .i64 ((2 * j : Nat) : Int) ∧ T2.length = j ∧ Hid (plainT T2 = (pairL addC (plainT T)).take j) ∧ wr.ownsRow w.heap.size 42 2 v j (fl2 (cellsT T2)) ∧ Hid (Num wr w.heap.size n T2) ∧ Hid (Below w.heap.size w wr)) (fun _ i _ => m + 2 - (RowKit.intOf i).toNat)
  case atStart => exact ⟨0, [], Nat.zero_le _, rfl, rfl, Lib.hid rfl, ho0, Lib.hid (fun t ht => by cases ht), Lib.hid hb0⟩
  case round =>
    clear ho0 hb0
    obtain ⟨j, T2, hj, rfl, hT2, HP2, ho1, HN2, HB1⟩ := hrel
    obtain ⟨w1, rfl⟩ : ∃ w1 : World, w1 = wr := ⟨_, rfl⟩
    have hz1 := HB1.out.size
    obtain ⟨P, hP⟩ : ∃ P, 2 * j = P := ⟨_, rfl⟩
    have hPm : P ≤ m := by omega
    rw [hP]
    by_cases hlt : P + 1 < m
    · obtain ⟨Q, hQ⟩ : ∃ Q, P + 1 = Q := ⟨_, rfl⟩
      have hPl : P < T.length := by omega
      have hQl : Q < T.length := by omega
      have hpg := pairL_get addC (0, []) (plainT T) j (by simp [plainT]; omega)
      have eP : (plainT T).getD (2 * j) (0, []) = (T[P].1, T[P].2.2) := by rw [hP]; simp [plainT, List.getD_eq_getElem?_getD, hPl]
      have eQ : (plainT T).getD (2 * j + 1) (0, []) = (T[Q].1, T[Q].2.2) := by rw [hP, hQ]; simp [plainT, List.getD_eq_getElem?_getD, hQl]
      rw [eP, eQ] at hpg
      have hcP : (cellsT T)[P]? = some (T[P].1, T[P].2.1) := by simp [cellsT, hPl]
      have hcQ : (cellsT T)[Q]? = some (T[Q].1, T[Q].2.1) := by simp [cellsT, hQl]
      have nP := HN.out _ (List.getElem_mem hPl)
      have nQ := HN.out _ (List.getElem_mem hQl)
      have wP := HW.out _ (List.getElem_mem hPl)
      have wQ := HW.out _ (List.getElem_mem hQl)
      have cP := HC.out _ (List.getElem_mem hPl)
      have cQ := HC.out _ (List.getElem_mem hQl)
      obtain ⟨⟨x1, v1, l1⟩, ex1⟩ : ∃ z, T[P] = z := ⟨_, rfl⟩
      obtain ⟨⟨x2, v2, l2⟩, ex2⟩ : ∃ z, T[Q] = z := ⟨_, rfl⟩
      rw [ex1] at hcP nP wP cP hpg
      rw [ex2] at hcQ nQ wQ cQ hpg
      simp only at hcP nP wP cP hcQ nQ wQ cQ hpg
      obtain ⟨g1, c1, rfl, _, _⟩ := World.ownsRow.form nP.1 (by omega)
      obtain ⟨g2, c2, rfl, _, _⟩ := World.ownsRow.form nQ.1 (by omega)
      have hl1 : l1.length = n := nP.2
      have hl2 : l2.length = n := nQ.2
      have hg1 := (nP.1.lt g1 rfl).2
      have hg2 := (nQ.1.lt g2 rfl).2
      obtain ⟨k0, k1⟩ := pack_cells (own_below HO.out HB1.out (Nat.le_refl _)) hcP
      obtain ⟨k2, k3⟩ := pack_cells (own_below HO.out HB1.out (Nat.le_refl _)) hcQ
      have s1 := own_below nP.1 HB1.out (Nat.le_refl _)
      have hcells : ∀ i u, (l1.map (Value.int .i64))[i]? = some u → (w1.alloc (.cells #[] 2)).cell? ⟨g1, 0 + i, none⟩ = some u := by
        intro i u hu
        have hi := (List.getElem?_eq_some_iff.1 hu).1
        rw [List.length_map, hl1] at hi
        rw [Nat.zero_add, cell_alloc_lt (show g1 < w1.heap.size by omega), World.ownsRow.cellAt s1 i (by omega)]
        exact hu
      have hw1 : IntKind.i64.wrap ((P : Int) + 1) = (Q : Int) := by rw [IntWalk.i64_in _ (by omega)]; omega
      have q1 : (0 : Int) ≤ (P : Int) := by omega
      have q2 : (P : Int) < (m : Int) := by omega
      have q3 : (0 : Int) ≤ (Q : Int) := by omega
      have q4 : (Q : Int) < (m : Int) := by omega
      have hgl1 : g < w1.heap.size := by omega
      have hmap1 : (l1.map (Value.int .i64)).length = n := by rw [List.length_map, hl1]
      have hone1 : ∀ u ∈ l1.map (Value.int .i64), u.oneCell' = true := by intro u hu; obtain ⟨t, _, rfl⟩ := List.mem_map.1 hu; rfl
      have HPG := Lib.hid hpg
      have HC1 := Lib.hid cP
      have HC2 := Lib.hid cQ
      have HL1 := Lib.hid hl1
      have HL2 := Lib.hid hl2
      have HNQ := Lib.hid nQ.1
      have HP := Lib.hid hP
      have HQ := Lib.hid hQ
      have HCE := Lib.hid hcells
      have HO1 := Lib.hid ho1
      have hemp := World.ownsRow_lit (e := 2) (size := 1) w1 #[] 0 (base := w1.heap.size) (Nat.le_refl _) (by simp [maxLen]) rfl
      clear hpg hcP hcQ nP nQ cP cQ eP eQ ex1 ex2 hl1 hl2 hP hQ s1 hcells ho1
      go_wp2_with (at_builtin; go_must (refine appNo (P := Try.prog) Try.underlying22 infoInt64 rfl (by decide) rfl _ _ rfl w1.heap.size _ 0 [] rfl hemp g1 0 n c1 (l1.map (Value.int .i64)) rfl hmap1 HCE.out hone1 (by omega) (by simp) ?_); rintro v3 w3 ho3 hb3 -; rw [Nat.zero_add, List.nil_append] at ho3; obtain ⟨g5, c5, rfl, hg5, _⟩ := World.ownsRow.form ho3 hn)
      have hb3' : Below w1.heap.size w1 w3 := ((Below.refl _ _).alloc (Nat.le_refl _) _).trans hb3
      have HO3 := Lib.hid (show w3.ownsRow w1.heap.size 2 1 (.slice (some ⟨g5, 0, none⟩) n c5) n ((addCk l1 l2 0).map (Value.int .i64)) by rw [addCk_zero]; exact ho3)
      have HB3 := Lib.hid hb3'
      clear ho3 hb3 hb3' hemp
      go_wp2_with fail
      go_loopw [6] (fun i wr => ∃ k : Nat, k ≤ n ∧ i = .int .i64 (k : Int) ∧ Hid (wr.ownsRow w1.heap.size 2 1 (.slice (some ⟨g5, 0, none⟩) n c5) n ((addCk l1 l2 k).map (Value.int .i64))) ∧ Hid (Below w1.heap.size w1 wr)) (fun i _ => n - (RowKit.intOf i).toNat)
      case atStart => exact ⟨0, Nat.zero_le _, rfl, HO3, HB3⟩
      case round =>
        obtain ⟨k, hk, rfl, HO4, HB4⟩ := hrel
        obtain ⟨w4, rfl⟩ : ∃ w4 : World, w4 = wr := ⟨_, rfl⟩
        have hz4 := HB4.out.size
        by_cases hkn : k < n
        · have hka : k < l1.length := by rw [HL1.out]; exact hkn
          have hkb : k < l2.length := by rw [HL2.out]; exact hkn
          have a0 := World.ownsRow.cellAt HO4.out k (by omega)
          rw [List.getElem?_map, addCk_at l1 l2 hka] at a0
          simp only [Option.map_some] at a0
          have a1 := World.ownsRow.frozenAt HO4.out k
          have b0 := (HB4.out.cell (p := ⟨g, Q * 2 + 1, none⟩) hgl1).trans k3
          have b1 := World.ownsRow.cellAt (own_below (own_below HNQ.out HB1.out (Nat.le_refl _)) HB4.out (Nat.le_refl _)) k (by omega)
          rw [List.getElem?_map, List.getElem?_eq_getElem hkb] at b1
          simp only [Option.map_some] at b1
          have eb : l2[k] = l2.getD k 0 := by rw [List.getD_eq_getElem?_getD, List.getElem?_eq_getElem hkb]; rfl
          rw [eb] at b1
          have ha := HC1.out (l1.getD k 0) (by rw [List.getD_eq_getElem?_getD, List.getElem?_eq_getElem hka]; exact List.getElem_mem hka)
          have hb := HC2.out (l2.getD k 0) (by rw [← eb]; exact List.getElem_mem hkb)
          have hst := (World.ownsRow.stored HO4.out k (.int .i64 (l1.getD k 0 + l2.getD k 0))).1
          rw [← List.map_set, ← addCk_succ] at hst
          obtain ⟨x, ex⟩ : ∃ x, l1.getD k 0 = x := ⟨_, rfl⟩
          obtain ⟨y, ey⟩ : ∃ y, l2.getD k 0 = y := ⟨_, rfl⟩
          rw [ex] at a0 ha hst
          rw [ey] at b1 hb hst
          have hadd : IntKind.i64.wrap (x + y) = x + y := IntWalk.i64_in _ (by omega)
          have q5 : (0 : Int) ≤ (k : Int) := by omega
          have q6 : (k : Int) < (n : Int) := by omega
          have hz14 : w1.heap.size ≤ g5 := hg5
          have HST := Lib.hid hst
          have HBS := Lib.hid (below_setCellR HB4.out hg5 k (.int .i64 (x + y)))
          clear hst ex ey eb ha hb
          go_wp2_with fail
          go_region
          go_wp2_with fail
          go_roundw
          case rel => exact ⟨k + 1, hkn, by go_num, Lib.hid (own_below HST.out (below_of_drewN _ _ _) (Nat.le_refl _)), Lib.hid (below_drewN HBS.out _)⟩
          case measure => simp [RowKit.intOf]; omega
        · have hke : k = n := by omega
          subst hke
          have hfull : addCk l1 l2 k = addC l1 l2 := by rw [← addCk_all, HL1.out]
          have ho4 := HO4.out
          rw [hfull] at ho4
          have HO4' := Lib.hid ho4
          have hob := own_below HO1.out HB4.out (Nat.le_refl _)
          have e0 := (HB4.out.cell (p := ⟨g, P * 2, none⟩) hgl1).trans k0
          have e1 := (HB4.out.cell (p := ⟨g, Q * 2, none⟩) hgl1).trans k2
          have hgl4 : g < w4.heap.size := by omega
          have hadd : IntKind.i64.wrap (x1 + x2) = x1 + x2 := IntWalk.i64_in _ (by omega)
          have hlen2 : j + 1 ≤ 1099511627776 := by omega
          have hz04 : w.heap.size ≤ w4.heap.size := by omega
          have HFU := Lib.hid hfull
          clear hfull ho4 k0 k1 k2 k3
          go_wp2_with fail
          go_region_held3 (fun w' => w'.cell? ⟨g, P * 2, none⟩ = some (.int .i64 x1) ∧ w'.cell? ⟨g, Q * 2, none⟩ = some (.int .i64 x2))
            (first | exact ⟨r0, r1⟩ | exact ⟨e0, e1⟩ | exact ⟨(cell_alloc_lt hgl4).trans e0, (cell_alloc_lt hgl4).trans e1⟩ | fail)
            (first
              | (refine step_app1s (P := Try.prog) 2 (by decide) Try.underlying37 infoPack (by rfl) (by decide) (by rfl) _ _ (by rfl) w.heap.size _ _ _ (by rfl) (World.ownsRow.alloc hob _) _ _ _ (by rfl) (by rfl) (lit2_cells _ _ _ _) (by intro u' hu'; simp at hu'; rcases hu' with rfl | rfl <;> rfl) hlen2 (by simp; omega) ?_; intro v9 w9 ho9 hg9; have hb9 : Below w.heap.size w4 w9 := (by first | exact ((Below.refl w.heap.size w4).alloc hz04 _).grown hg9 (by simp; omega) (fun k hk => (World.ownsRow.lt hob k hk).1) | exact (below_drewN ((Below.refl w.heap.size w4).alloc hz04 _) 1).grown hg9 (by show w.heap.size ≤ (World.alloc _ _).heap.size; simp; omega) (fun k hk => (World.ownsRow.lt hob k hk).1)); have r0 := (hb9.cell (p := ⟨g, P * 2, none⟩) hg).trans e0; have r1 := (hb9.cell (p := ⟨g, Q * 2, none⟩) hg).trans e1))
          have HO9 := Lib.hid ho9
          have HG9 := Lib.hid hg9
          have HB9 := Lib.hid hb9
          clear ho9 hg9 hb9 e0 e1 r0 r1
          go_wp2
          go_roundw
          case rel =>
            have hPj := HP.out
            have hQj := HQ.out
            have hal : Below w4.heap.size w4 ((w4.alloc (.cells #[.int .i64 (x1 + x2), .slice (some ⟨g5, 0, none⟩) k c5] 42)).drew) := below_drewN ((Below.refl _ _).alloc (Nat.le_refl _) _) 1
            have hra := own_below hob hal (Nat.le_refl _)
            refine ⟨j + 1, T2 ++ [(x1 + x2, .slice (some ⟨g5, 0, none⟩) k c5, addC l1 l2)], by omega, by go_num, by rw [List.length_append, hT2]; rfl, Lib.hid ?_, by rw [cellsT_snoc]; exact HO9.out, Lib.hid ?_, Lib.hid (HB1.out.trans ((HB4.out.mono hz1).trans HB9.out))⟩
            · obtain ⟨hj2, hje⟩ := List.getElem?_eq_some_iff.1 HPG.out
              rw [List.take_succ_eq_append_getElem hj2, hje, ← HP2.out]
              simp [plainT]
            · intro t ht
              rcases List.mem_append.1 ht with ht | ht
              · exact ((((HN2.out.below HB4.out).below hal).grown hra (by decide) HG9.out)) t ht
              · obtain rfl := List.mem_singleton.1 ht
                have h9 := own_below HO4'.out hal (Nat.le_refl _)
                have h9 := World.ownsRow.kept h9 HG9.out (own_typesM h9 hra (by decide))
                exact ⟨own_base h9 hz1, by rw [← HFU.out, addCk_len, HL1.out]⟩
          case measure => simp [RowKit.intOf]; omega
    · have hje : j = m / 2 := by omega
      have hd0 : decide ((P : Int) + 1 < (m : Int)) = false := decide_eq_false (by omega)
      have hpl : (plainT T).length = m := by simp [plainT, hT]
      have hall : (pairL addC (plainT T)).take j = pairL addC (plainT T) := List.take_of_length_le (by rw [pairL_len]; omega)
      have HALL := Lib.hid hall
      have HO1 := Lib.hid ho1
      have HJ := Lib.hid hje
      have HT2 := Lib.hid hT2
      clear hall ho1 hje hP hT2
      go_wp2_with fail
      go_ret
      exact ⟨_, T2, rfl, by rw [HT2.out, HJ.out], by rw [HP2.out, HALL.out], by rw [← HJ.out]; exact HO1.out, HN2.out, HB1.out⟩

end Go.Proofs.Ytkmfjadlobpbkaa
