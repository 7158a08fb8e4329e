/-
  Contracts: two lists of packs merged (the reference's).
  Conditions: 1 to 1024 packs, each of n numbers.
-/
import Derived.Test.YtkmfjadlobpbkaaBP
import Derived.Deep.QuietTactic
import Derived.BigQuiet
namespace Go.Proofs.Ytkmfjadlobpbkaa
open Go.RowKit

theorem mergeL_le {α : Type} {x y : Int × α} (A B : List (Int × α)) (h : x.1 ≤ y.1) : mergeL (x :: A) (y :: B) = x :: mergeL A (y :: B) := by
  show (x :: A).takeWhile (fun z => decide (z.1 ≤ y.1)) ++ y :: mergeL ((x :: A).dropWhile (fun z => decide (z.1 ≤ y.1))) B = x :: (A.takeWhile (fun z => decide (z.1 ≤ y.1)) ++ y :: mergeL (A.dropWhile (fun z => decide (z.1 ≤ y.1))) B)
  rw [List.takeWhile_cons, List.dropWhile_cons, if_pos (by simpa using h), if_pos (by simpa using h)]
  rfl
theorem mergeL_gt {α : Type} {y : Int × α} (A B : List (Int × α)) (h : ∀ x ∈ A.head?, y.1 < x.1) : mergeL A (y :: B) = y :: mergeL A B := by
  cases A with
  | nil => rfl
  | cons x A =>
    have := h x (by simp)
    show (x :: A).takeWhile (fun z => decide (z.1 ≤ y.1)) ++ y :: mergeL ((x :: A).dropWhile (fun z => decide (z.1 ≤ y.1))) B = y :: mergeL (x :: A) B
    rw [List.takeWhile_cons, List.dropWhile_cons, if_neg (by simp; omega), if_neg (by simp; omega)]
    rfl

theorem own_dallocR {w : World} {n base size k : Nat} {e : TypeId} {v : Value} {xs : List Value} (h : w.ownsRow base e size v k xs) (o : Go.Obj) : ((w.drewN n).alloc o).ownsRow base e size v k xs := World.ownsRow.alloc (w := w.drewN n) h o
theorem own_capR {w : World} {base size n cap : Nat} {e : TypeId} {A : Option Addr} {xs : List Value} (h : w.ownsRow base e size (.slice A n cap) n xs) : n ≤ cap := by
  rcases h.2 with ⟨h0, h1⟩ | ⟨g', cap', cur, hv, hbg, hgb, h1, _⟩
  · omega
  · injection hv with hv1 hv2 hv3
    omega
theorem cellsT_snoc (T : List Tri) (t : Tri) : fl2 (cellsT (T ++ [t])) = fl2 (cellsT T) ++ [.int .i64 t.1, t.2.1] := by
  unfold cellsT
  rw [List.map_append, fl2_app]
  rfl
theorem packs_one {W : World} {base n : Nat} {T : List Tri} (h : Num W base n T) (hn : 1 ≤ n) : ∀ u ∈ fl2 (cellsT T), u.oneCell' = true := by
  refine fl2_one _ fun t ht => ?_
  obtain ⟨r, hr, rfl⟩ := List.mem_map.1 ht
  obtain ⟨g, c, hv, _⟩ := World.ownsRow.form (h r hr).1 (by omega)
  simp only
  rw [hv]
  rfl


set_option maxRecDepth 100000 in
set_option maxHeartbeats 8000000 in
theorem spec_l04Merged_c (w : World) (base ga na ca gb nb cb n : Nat) (TA TB : List Tri) (hla : TA.length = na) (hlb : TB.length = nb) (h1 : 1 ≤ na) (hna : na ≤ 1024) (hnb : nb ≤ 1024) (hn : 1 ≤ n)
    (hoa : w.ownsRow base 42 2 (.slice (some ⟨ga, 0, none⟩) na ca) na (fl2 (cellsT TA))) (hob : w.ownsRow base 42 2 (.slice (some ⟨gb, 0, none⟩) nb cb) nb (fl2 (cellsT TB))) (hA : Num w base n TA) (hB : Num w base n TB) :
    Calls Try.prog 16 #[.slice (some ⟨ga, 0, none⟩) na ca, .slice (some ⟨gb, 0, none⟩) nb cb] w fun e w' => ∃ v T, e = .returned v ∧ T.length = na + nb ∧ plainT T = mergeL (plainT TA) (plainT TB) ∧ (∀ t ∈ T, t ∈ TA ∨ t ∈ TB) ∧ w'.ownsRow w.heap.size 42 2 v (na + nb) (fl2 (cellsT T)) ∧ Below w.heap.size w w' := by
  have hga := (hoa.lt ga rfl).2
  have hgb := (hob.lt gb rfl).2
  have HOA := Lib.hid hoa
  have HOB := Lib.hid hob
  have HA := Lib.hid hA
  have HB := Lib.hid hB
  clear hoa hob hA hB
  go_enter Try.func16, Try.ntmps16
  go_wp2
  have ho0 := ownP_empty w w.heap.size (Nat.le_refl _)
  have hb0 : Below w.heap.size w (w.alloc (.cells #[] 42)) := (Below.refl _ _).alloc (Nat.le_refl _) _
  go_loopw [5, 6, 7] (fun v i k wr => ∃ (a b : Nat) (T : List Tri), a ≤ na ∧ b ≤ nb ∧ i = .int .i64 (a : Int) ∧ k = .int .i64 (b : Int) ∧ Hid (T.length = a + b) ∧ Hid (plainT T ++ mergeL ((plainT TA).drop a) ((plainT TB).drop b) = mergeL (plainT TA) (plainT TB)) ∧ Hid (∀ t ∈ T, t ∈ TA ∨ t ∈ TB) ∧ wr.ownsRow w.heap.size 42 2 v (a + b) (fl2 (cellsT T)) ∧ Hid (Below w.heap.size w wr)) (fun _ _ k _ => nb - (RowKit.intOf k).toNat)
  case atStart => exact ⟨0, 0, [], Nat.zero_le _, Nat.zero_le _, rfl, rfl, Lib.hid rfl, Lib.hid rfl, Lib.hid (fun t ht => by cases ht), ho0, Lib.hid hb0⟩
  case round =>
    clear ho0 hb0
    obtain ⟨a, b, T, ha, hb, rfl, rfl, HT, HM, HI, ho, HBW⟩ := hrel
    obtain ⟨w1, rfl⟩ : ∃ w1 : World, w1 = wr := ⟨_, rfl⟩
    have hz1 := HBW.out.size
    by_cases hlt : b < nb
    · have hbT : b < TB.length := by omega
      have hgetb : (cellsT TB)[b]? = some (TB[b].1, TB[b].2.1) := by simp [cellsT, hbT]
      have hBd : (plainT TB).drop b = (TB[b].1, TB[b].2.2) :: (plainT TB).drop (b + 1) := by
        rw [List.drop_eq_getElem_cons (by simp [plainT]; omega)]
        simp [plainT]
      have hmemb : TB[b] ∈ TB := List.getElem_mem hbT
      obtain ⟨⟨y, v2, l2⟩, eY⟩ : ∃ r, TB[b] = r := ⟨_, rfl⟩
      rw [eY] at hgetb hBd hmemb
      simp only at hgetb hBd
      obtain ⟨g2, c2, rfl, _, _⟩ := World.ownsRow.form (HB.out _ hmemb).1 (by omega)
      have HGB := Lib.hid hgetb
      have HBD := Lib.hid hBd
      have HMB := Lib.hid hmemb
      have HO1 := Lib.hid ho
      clear hgetb hBd hmemb eY ho
      go_wp2_with fail
      go_loopw [5, 6] (fun v i wr => ∃ (a : Nat) (T : List Tri), a ≤ na ∧ i = .int .i64 (a : Int) ∧ Hid (T.length = a + b) ∧ Hid (plainT T ++ mergeL ((plainT TA).drop a) ((plainT TB).drop b) = mergeL (plainT TA) (plainT TB)) ∧ Hid (∀ t ∈ T, t ∈ TA ∨ t ∈ TB) ∧ wr.ownsRow w.heap.size 42 2 v (a + b) (fl2 (cellsT T)) ∧ Hid (Below w.heap.size w wr)) (fun _ i _ => na - (RowKit.intOf i).toNat)
      case atStart => exact ⟨a, T, ha, rfl, HT, HM, HI, HO1.out, HBW⟩
      case round =>
        clear HT HM HI HO1 HBW ha
        obtain ⟨a, T, ha, rfl, HT, HM, HI, ho, HBW⟩ := hrel
        obtain ⟨w2, rfl⟩ : ∃ w2 : World, w2 = wr := ⟨_, rfl⟩
        have hz2 := HBW.out.size
        obtain ⟨kb0, kb1⟩ := pack_cells (own_below HOB.out HBW.out (Nat.le_refl _)) HGB.out
        have q1 : (0 : Int) ≤ (b : Int) := by omega
        have q2 : (b : Int) < (nb : Int) := by omega
        have HO2 := Lib.hid ho
        clear ho
        by_cases hla2 : a < na
        · have haT : a < TA.length := by omega
          have hgeta : (cellsT TA)[a]? = some (TA[a].1, TA[a].2.1) := by simp [cellsT, haT]
          have hAd : (plainT TA).drop a = (TA[a].1, TA[a].2.2) :: (plainT TA).drop (a + 1) := by
            rw [List.drop_eq_getElem_cons (by simp [plainT]; omega)]
            simp [plainT]
          have hmema : TA[a] ∈ TA := List.getElem_mem haT
          obtain ⟨⟨x, v1, l1⟩, eX⟩ : ∃ r, TA[a] = r := ⟨_, rfl⟩
          rw [eX] at hgeta hAd hmema
          simp only at hgeta hAd
          obtain ⟨g1, c1, rfl, _, _⟩ := World.ownsRow.form (HA.out _ hmema).1 (by omega)
          obtain ⟨ka0, ka1⟩ := pack_cells (own_below HOA.out HBW.out (Nat.le_refl _)) hgeta
          have q3 : (0 : Int) ≤ (a : Int) := by omega
          have q4 : (a : Int) < (na : Int) := by omega
          have q5 : decide ((a : Int) < (na : Int)) = true := decide_eq_true q4
          have q6 : decide (a < na) = true := decide_eq_true hla2
          have HAD := Lib.hid hAd
          have HMA := Lib.hid hmema
          clear hAd hmema hgeta eX
          by_cases hxy : x ≤ y
          · have hd : decide (x ≤ y) = true := decide_eq_true hxy
            go_wp2_with fail
            go_region
            obtain ⟨w3, e3⟩ : ∃ q : World, q = w2.drewN 1 := ⟨_, rfl⟩
            have b3 : Below w2.heap.size w2 w3 := by rw [e3]; exact below_of_drewN _ _ _
            have hz3 : w2.heap.size ≤ w3.heap.size := b3.size
            have k0 : w3.cell? ⟨ga, a * 2, none⟩ = some (.int .i64 x) := by rw [e3]; exact ka0
            have k1 : w3.cell? ⟨ga, a * 2 + 1, none⟩ = some (.slice (some ⟨g1, 0, none⟩) n c1) := by rw [e3]; exact ka1
            have ho3 := own_below HO2.out b3 (Nat.le_refl _)
            have HB3 := Lib.hid (HBW.out.trans (b3.mono HBW.out.size))
            first | rw [← e3] | (rw [show w2.drew = w2.drewN 1 from rfl, ← e3])
            clear e3 b3 ka0 ka1 kb0 kb1
            go_wp2_with (at_builtin; go_must (refine app1s (P := Try.prog) 2 (by decide) Try.underlying37 infoPack rfl (by decide) rfl _ _ rfl w.heap.size _ _ _ rfl (World.ownsRow.alloc ho3 _) _ _ [.int .i64 x, .slice (some ⟨g1, 0, none⟩) n c1] rfl rfl (lit2_cells _ _ _ _) (by intro u' hu'; simp at hu'; rcases hu' with rfl | rfl <;> rfl) (by omega) (by simp; omega) ?_); rintro v4 w4 ho4 hb4 hg4 -)
            go_roundw
            case rel =>
              refine ⟨a + 1, T ++ [(x, .slice (some ⟨g1, 0, none⟩) n c1, l1)], by omega, by go_num, Lib.hid ?_, Lib.hid ?_, Lib.hid ?_, ?_, Lib.hid ((HB3.out.alloc (by omega) _).trans hb4)⟩
              · rw [List.length_append, HT.out]; simp; omega
              · have h := HM.out
                rw [HAD.out, HBD.out, mergeL_le _ _ hxy, ← HBD.out] at h
                rw [← h]
                simp [plainT]
              · intro t ht
                rcases List.mem_append.1 ht with ht | ht
                · exact HI.out t ht
                · obtain rfl := List.mem_singleton.1 ht
                  exact .inl HMA.out
              · rw [cellsT_snoc, show a + 1 + b = a + b + 1 by omega]
                exact ho4
            case measure => simp [RowKit.intOf]; omega
          · have hd : decide (x ≤ y) = false := decide_eq_false hxy
            go_wp2_with fail
            go_region
            obtain ⟨w3, e3⟩ : ∃ q : World, q = w2.drewN 1 := ⟨_, rfl⟩
            have b3 : Below w2.heap.size w2 w3 := by rw [e3]; exact below_of_drewN _ _ _
            have hz3 : w2.heap.size ≤ w3.heap.size := b3.size
            have k0 : w3.cell? ⟨gb, b * 2, none⟩ = some (.int .i64 y) := by rw [e3]; exact kb0
            have k1 : w3.cell? ⟨gb, b * 2 + 1, none⟩ = some (.slice (some ⟨g2, 0, none⟩) n c2) := by rw [e3]; exact kb1
            have ho3 := own_below HO2.out b3 (Nat.le_refl _)
            have HB3 := Lib.hid (HBW.out.trans (b3.mono HBW.out.size))
            first | rw [← e3] | (rw [show w2.drew = w2.drewN 1 from rfl, ← e3])
            clear e3 b3 ka0 ka1 kb0 kb1
            go_wp2_with (at_builtin; go_must (refine app1s (P := Try.prog) 2 (by decide) Try.underlying37 infoPack rfl (by decide) rfl _ _ rfl w.heap.size _ _ _ rfl (World.ownsRow.alloc ho3 _) _ _ [.int .i64 y, .slice (some ⟨g2, 0, none⟩) n c2] rfl rfl (lit2_cells _ _ _ _) (by intro u' hu'; simp at hu'; rcases hu' with rfl | rfl <;> rfl) (by omega) (by simp; omega) ?_); rintro v4 w4 ho4 hb4 hg4 -)
            go_roundw
            case rel =>
              refine ⟨a, b + 1, T ++ [(y, .slice (some ⟨g2, 0, none⟩) n c2, l2)], ha, by omega, rfl, by go_num, Lib.hid ?_, Lib.hid ?_, Lib.hid ?_, ?_, Lib.hid ((HB3.out.alloc (by omega) _).trans hb4)⟩
              · rw [List.length_append, HT.out]; simp; omega
              · have h := HM.out
                rw [HBD.out, mergeL_gt _ _ (by rw [HAD.out]; intro z hz; cases hz; simp only; omega)] at h
                rw [← h]
                simp [plainT]
              · intro t ht
                rcases List.mem_append.1 ht with ht | ht
                · exact HI.out t ht
                · obtain rfl := List.mem_singleton.1 ht
                  exact .inr HMB.out
              · rw [cellsT_snoc, show a + (b + 1) = a + b + 1 by omega]
                exact ho4
            case measure => simp [RowKit.intOf]; omega
        · have q5 : decide ((a : Int) < (na : Int)) = false := decide_eq_false (by omega)
          have q6 : decide (a < na) = false := decide_eq_false hla2
          go_wp2_with fail
          go_quiet (fail)
          go_wp2_with (at_builtin; go_must (refine app1s (P := Try.prog) 2 (by decide) Try.underlying37 infoPack rfl (by decide) rfl _ _ rfl w.heap.size _ _ _ rfl (own_dallocR HO2.out _) _ _ [.int .i64 y, .slice (some ⟨g2, 0, none⟩) n c2] rfl rfl (lit2_cells _ _ _ _) (by intro u' hu'; simp at hu'; rcases hu' with rfl | rfl <;> rfl) (by omega) (by simp; omega) ?_); rintro v4 w4 ho4 hb4 hg4 -)
          go_roundw
          case rel =>
            refine ⟨a, b + 1, T ++ [(y, .slice (some ⟨g2, 0, none⟩) n c2, l2)], ha, by omega, rfl, by go_num, Lib.hid ?_, Lib.hid ?_, Lib.hid ?_, ?_, Lib.hid (((below_drewN HBW.out _).alloc hz2 _).trans hb4)⟩
            · rw [List.length_append, HT.out]; simp; omega
            · have h := HM.out
              rw [HBD.out, mergeL_gt _ _ (by rw [List.drop_eq_nil_of_le (by simp [plainT]; omega)]; intro z hz; cases hz)] at h
              rw [← h]
              simp [plainT]
            · intro t ht
              rcases List.mem_append.1 ht with ht | ht
              · exact HI.out t ht
              · obtain rfl := List.mem_singleton.1 ht
                exact .inr HMB.out
            · rw [cellsT_snoc, show a + (b + 1) = a + b + 1 by omega]
              exact ho4
          case measure => simp [RowKit.intOf]; omega
    · have hbe : b = nb := by omega
      subst hbe
      have HO1 := Lib.hid ho
      have hoa1 := own_below HOA.out HBW.out (Nat.le_refl _)
      have hcap := own_capR HOA.out
      have hfl := fl2_len (cellsT TA)
      have hcl : (cellsT TA).length = na := by simp [cellsT, hla]
      have hend : plainT (T ++ TA.drop a) = mergeL (plainT TA) (plainT TB) := by
        have h := HM.out
        have hdn : (plainT TB).drop b = [] := List.drop_eq_nil_of_le (by simp [plainT]; omega)
        rw [hdn] at h
        have e : mergeL ((plainT TA).drop a) [] = (plainT TA).drop a := by cases (plainT TA).drop a <;> rfl
        rw [e] at h
        rw [← h]
        simp [plainT]
      have hcd : fl2 (cellsT (T ++ TA.drop a)) = fl2 (cellsT T) ++ (fl2 (cellsT TA)).drop (a * 2) := by
        rw [fl2_drop, ← fl2_app]
        simp [cellsT]
      have hmem : ∀ t ∈ T ++ TA.drop a, t ∈ TA ∨ t ∈ TB := by
        intro t ht
        rcases List.mem_append.1 ht with ht | ht
        · exact HI.out t ht
        · exact .inl (List.mem_of_mem_drop ht)
      have hone : ∀ u ∈ (fl2 (cellsT TA)).drop (a * 2), u.oneCell' = true := fun u hu => packs_one HA.out hn u (List.mem_of_mem_drop hu)
      have hcells : ∀ j u, ((fl2 (cellsT TA)).drop (a * 2))[j]? = some u → w1.cell? ⟨ga, a * 2 + j, none⟩ = some u := by
        intro j u hu
        rw [List.getElem?_drop] at hu
        have hj := (List.getElem?_eq_some_iff.1 hu).1
        rw [World.ownsRow.cellAt hoa1 (a * 2 + j) (by omega)]
        exact hu
      have hdl : ((fl2 (cellsT TA)).drop (a * 2)).length = (na - a) * 2 := by rw [List.length_drop, hfl, hcl]; omega
      have htl : (T ++ TA.drop a).length = na + b := by rw [List.length_append, List.length_drop, HT.out, hla]; omega
      have HE := Lib.hid hend
      have HC := Lib.hid hcd
      have HME := Lib.hid hmem
      have HON := Lib.hid hone
      have HCE := Lib.hid hcells
      have HDL := Lib.hid hdl
      have HTL := Lib.hid htl
      clear ho hoa1 hfl hcl hend hcd hmem hone hcells hdl htl
      by_cases hca : a < ca
      · go_wp2_with (at_builtin; go_must (refine appMs (P := Try.prog) 2 (by decide) Try.underlying37 infoPack rfl (by decide) rfl _ _ rfl w.heap.size _ _ _ rfl HO1.out ga (a * 2) _ _ ((fl2 (cellsT TA)).drop (a * 2)) rfl HDL.out HCE.out HON.out (by omega) hz1 ?_); intro v4 w4 ho4 hb4)
        go_ret
        rw [show a + b + (na - a) = na + b by omega] at ho4
        exact ⟨_, T ++ TA.drop a, rfl, HTL.out, HE.out, HME.out, by rw [HC.out]; exact ho4, HBW.out.trans hb4⟩
      · obtain rfl : a = na := by omega
        have hcc : ca = a := by omega
        have hnil : (fl2 (cellsT TA)).drop (a * 2) = [] := List.drop_eq_nil_of_le (by have := HDL.out; rw [List.length_drop] at this; omega)
        have HNIL := Lib.hid hnil
        subst hcc
        clear hnil
        go_wp2_with (at_builtin; go_must (refine appMs (P := Try.prog) 2 (by decide) Try.underlying37 infoPack rfl (by decide) rfl _ _ rfl w.heap.size _ _ _ rfl HO1.out ga 0 0 _ [] rfl rfl (by intro j u hu; cases hu) (by intro u hu; cases hu) (by omega) hz1 ?_); intro v4 w4 ho4 hb4)
        go_ret
        rw [List.append_nil] at ho4
        exact ⟨_, T ++ TA.drop ca, rfl, HTL.out, HE.out, HME.out, by rw [HC.out, HNIL.out, List.append_nil]; exact ho4, HBW.out.trans hb4⟩

end Go.Proofs.Ytkmfjadlobpbkaa
