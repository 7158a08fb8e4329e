/-
  Contract: the list of the words of a code near to a word, of the reference (put into a sorted list one by one).
  Conditions: lengths at most 1048576.
-/
import Derived.Test.YtlipejcmjhmnaaaRE
namespace Go.Proofs.Ytlipejcmjhmnaaa
open Go.RowKit

theorem put_end {w : World} {B : Nat} {e : TypeId} {v : Value} {S : List Int} {y : Int} (h : Ow w B e v (S.map (Value.int .i64) ++ [.int .i64 y])) : Ow w B e v ((putL S y S.length).map (Value.int .i64)) := by
  rw [putL_end, List.map_append]
  exact h
theorem listV_len (m : Int) (xs : List Int) (word far : Int) : (listV m xs word far).length ≤ 256 := by
  unfold listV
  cases hok : okL m xs word far
  · simp
  · have hc : canB m xs word = true := by
      cases hc : canB m xs word
      · rw [okL_no1 hc] at hok; cases hok
      · rfl
    obtain ⟨_, M, _, _, _, _, g8, _⟩ := can_facts hc
    have h1 := List.length_filter_le (nearB word far) (sortL (codeL xs))
    rw [sortL_len, codeL_len] at h1
    have h2 := pow8 g8
    simp only [if_true]
    omega

set_option maxRecDepth 100000 in
set_option maxHeartbeats 4000000 in
theorem spec_ListWords_c (w : World) (m : Int) (A : Option Addr) (n cap : Nat) (xs : List Int) (hl : xs.length = n) (hn : n ≤ 1048576) (hx : Sl w w.heap.size A (xs.map (Value.int .i64))) (word far : Int) :
    Calls Try.prog 15 #[.agg #[.int .i64 m, .slice A n cap], .int .i64 word, .int .i64 far] w fun e w' => ∃ v, e = .returned (.tuple #[v, .bool (okL m xs word far)]) ∧ Ow w' w.heap.size 2 v ((listV m xs word far).map (Value.int .i64)) ∧ Below w.heap.size w w' := by
  have hB0 : Below w.heap.size w (w.alloc (.cells #[.int .i64 m, .slice A n cap] 28)) := (Below.refl _ _).alloc (Nat.le_refl _) _
  obtain ⟨w1, ew⟩ : ∃ q : World, q = w.alloc (.cells #[.int .i64 m, .slice A n cap] 28) := ⟨_, rfl⟩
  have c0 : w1.cell? ⟨w.heap.size, 0, none⟩ = some (.int .i64 m) := by rw [ew]; (first | (simp; done) | (simp (disch := (first | (simp; done) | (simp; omega))) [World.cell?_alloc_at]; done) | (simp (disch := (first | (simp; done) | (simp; omega))) [World.cell?_alloc_past]; done) | (simp (disch := (first | (simp; done) | (simp; omega))) [World.cell?_alloc_at, World.cell?_alloc_past]; done) | (simp (disch := (first | (simp; done) | (simp; omega))) [World.frozen?_alloc_at]; done) | (simp (disch := (first | (simp; done) | (simp; omega))) [World.frozen?_alloc_past]; done) | (simp (disch := (first | (simp; done) | (simp; omega))) [World.frozen?_alloc_at, World.frozen?_alloc_past]; done))
  have c1 : w1.cell? ⟨w.heap.size, 1, none⟩ = some (.slice A n cap) := by rw [ew]; (first | (simp; done) | (simp (disch := (first | (simp; done) | (simp; omega))) [World.cell?_alloc_at]; done) | (simp (disch := (first | (simp; done) | (simp; omega))) [World.cell?_alloc_past]; done) | (simp (disch := (first | (simp; done) | (simp; omega))) [World.cell?_alloc_at, World.cell?_alloc_past]; done) | (simp (disch := (first | (simp; done) | (simp; omega))) [World.frozen?_alloc_at]; done) | (simp (disch := (first | (simp; done) | (simp; omega))) [World.frozen?_alloc_past]; done) | (simp (disch := (first | (simp; done) | (simp; omega))) [World.frozen?_alloc_at, World.frozen?_alloc_past]; done))
  have z1 : w.heap.size < w1.heap.size := by rw [ew]; simp
  rw [← ew] at hB0
  have EW := Lib.hid ew
  have HX := Lib.hid hx
  have C0 := Lib.hid c0
  have C1 := Lib.hid c1
  clear ew hx c0 c1
  cases hok : okL m xs word far
  · have e1 : listV m xs word far = [] := by unfold listV; rw [hok]; rfl
    rw [e1]
    cases hc : canB m xs word
    · have HV := Lib.hid hc
      clear hc hok e1
      go_enter Try.func15, Try.ntmps15
      go_wp2_with fail
      rw [← EW.out]
      refine (spec_l06Can_c w1 w.heap.size w.heap.size m A n cap xs C0.out C1.out z1 hB0.size hl hn (HX.out.below hB0) word).mono ?_
      rintro e w2 ⟨rfl, hb2⟩
      rw [HV.out]
      go_wp2
      go_ret2
      exact ⟨_, rfl, World.ownsRow_nil _ _ _ _, hB0.trans (hb2.mono hB0.size)⟩
    · rw [okL_yes1 hc] at hok
      have HV := Lib.hid hc
      have HF := Lib.hid hok
      clear hc hok e1
      go_enter Try.func15, Try.ntmps15
      go_wp2_with fail
      rw [← EW.out]
      refine (spec_l06Can_c w1 w.heap.size w.heap.size m A n cap xs C0.out C1.out z1 hB0.size hl hn (HX.out.below hB0) word).mono ?_
      rintro e w2 ⟨rfl, hb2⟩
      rw [HV.out]
      go_wp2_with (go_at_call 27; refine (spec_l00In_c _ _ _ _).mono ?_; rintro e w' ⟨rfl, rfl⟩; rw [HF.out])
      go_ret2
      exact ⟨_, rfl, World.ownsRow_nil _ _ _ _, hB0.trans (hb2.mono hB0.size)⟩
  · have hc : canB m xs word = true := by
      cases hc : canB m xs word
      · rw [okL_no1 hc] at hok; cases hok
      · rfl
    have hf := hok
    rw [okL_yes1 hc] at hf
    obtain ⟨hv, M, rfl, m1, hM, g1, g8, hbd⟩ := can_facts hc
    have e1 : listV (M : Int) xs word far = sortL ((codeL xs).filter (nearB word far)) := by unfold listV; rw [hok, sortL_filter]; rfl
    rw [e1]
    have hcl := codeL_len xs
    have hp8 := pow8 (n := xs.length) g8
    have hal := fun (W : World) (h1 : W.cell? ⟨w.heap.size, 1, none⟩ = some (.slice A n cap)) (hz : w.heap.size < W.heap.size) (hW : Sl W w.heap.size A (xs.map (Value.int .i64))) => spec_l06All_c W w.heap.size w.heap.size A n cap xs h1 hz (Nat.le_of_lt hz) hl (by omega) hW
    obtain ⟨C, hC⟩ : ∃ C, codeL xs = C := ⟨_, rfl⟩
    rw [hC] at hcl hbd hal ⊢
    have hCl : C.length ≤ 256 := by omega
    have HCW := Lib.hid hal
    have HV := Lib.hid hc
    have HF := Lib.hid hf
    have HCB := Lib.hid hbd
    clear hc hf hok hv e1 hbd hcl hp8 hC hal
    go_enter Try.func15, Try.ntmps15
    go_wp2_with fail
    rw [← EW.out]
    refine (spec_l06Can_c w1 w.heap.size w.heap.size M A n cap xs C0.out C1.out z1 hB0.size hl hn (HX.out.below hB0) word).mono ?_
    rintro e w2 ⟨rfl, hb2⟩
    rw [HV.out]
    have d1 := (hb2.cell (p := ⟨w.heap.size, 1, none⟩) z1).trans C1.out
    have hB2 : Below w.heap.size w w2 := hB0.trans (hb2.mono hB0.size)
    have z2 : w.heap.size < w2.heap.size := Nat.lt_of_lt_of_le z1 hb2.size
    clear hb2 hB0
    go_wp2_with (go_at_call 27; refine (spec_l00In_c _ _ _ _).mono ?_; rintro e w' ⟨rfl, rfl⟩; rw [HF.out])
    have o3 := own_empty w2 w.heap.size 2 (Nat.le_of_lt z2)
    obtain ⟨w3, ew⟩ : ∃ q : World, q = w2.alloc (.cells #[] 2) := ⟨_, rfl⟩
    rw [← ew] at o3
    have hB3 : Below w.heap.size w w3 := by rw [ew]; exact hB2.alloc (Nat.le_of_lt z2) _
    have hb3 : Below w2.heap.size w2 w3 := by rw [ew]; exact (Below.refl _ _).alloc (Nat.le_refl _) _
    have f1 := (hb3.cell (p := ⟨w.heap.size, 1, none⟩) z2).trans d1
    rw [← ew]
    have z3 : w.heap.size < w3.heap.size := Nat.lt_of_lt_of_le z2 hb3.size
    clear ew d1 hb3 hB2
    refine (HCW.out w3 f1 z3 (HX.out.below hB3)).mono ?_
    rintro e w4 ⟨v, rfl, ho4, hb4⟩
    have o4 := own_below o3 hb4 (Nat.le_refl _)
    have hB4 : Below w.heap.size w w4 := hB3.trans (hb4.mono hB3.size)
    have hz4 := hB4.size
    obtain ⟨S0, kc, rfl, hp4⟩ := ho4.opn
    clear o3 hB3 ho4 hb4 HCW HX f1
    go_wp2
    go_loopw [8, 10] (fun v i wr => ∃ k : Nat, k ≤ C.length ∧ i = .int .i64 k ∧ Ow0 wr w4.heap.size 2 w2.heap.size v ((sortL (keepL C word far k)).map (Value.int .i64)) ∧ Below w4.heap.size w4 wr) (fun _ i _ => C.length - (intOf i).toNat)
    case atStart => exact ⟨0, Nat.zero_le _, rfl, .inl ⟨rfl, by simp [keepL, sortL]⟩, Below.refl _ _⟩
    case round =>
      obtain ⟨k, hk, rfl, o5, hb5⟩ := hrel
      by_cases hlt : k < C.length
      · have hp5 := own_below hp4 hb5 (Nat.le_refl _)
        obtain ⟨b, off, rfl, hbb, hc1⟩ := sl_cell (sl_of_own hp5) hlt
        obtain ⟨y, hy⟩ : ∃ y, C.getD k 0 = y := ⟨_, rfl⟩
        have hyb := HCB.out y (by rw [← hy]; simp only [List.getD, List.getElem?_eq_getElem hlt, Option.getD_some]; exact List.getElem_mem hlt)
        have hks := keepL_skip (word := word) (far := far) hlt
        have hkt := keepL_take (word := word) (far := far) hlt
        have hkl := keepL_len C word far k
        rw [hy] at hks hkt hc1
        obtain ⟨q, hq⟩ : ∃ q, wt (xorI y word) = q := ⟨_, rfl⟩
        have hnb : nearB word far y = decide (q ≤ far) := by unfold nearB; rw [hq]
        rw [hnb] at hks hkt
        have HQ := Lib.hid hq
        clear hq hnb hy hp5
        by_cases hqf : q ≤ far
        · have hkt := hkt (decide_eq_true hqf)
          have HT := Lib.hid hkt
          obtain ⟨T, hT⟩ : ∃ T, keepL C word far k = T := ⟨_, rfl⟩
          rw [hT] at HT hkl o5
          obtain ⟨S, hS⟩ : ∃ S, sortL T = S := ⟨_, rfl⟩
          have hSl : S.length ≤ 256 := by rw [← hS, sortL_len]; omega
          rw [hS] at o5
          have HS := Lib.hid hS
          have hlen : (S.map (Value.int .i64)).length + 1 ≤ 1099511627776 := by rw [List.length_map]; omega
          have hz5 := hb5.size
          clear hks hkt hT hS
          go_wp2_with (first | (go_at_call 29; refine (spec_l06Weight_c _ (xorI y word) hyb.1 hyb.2).mono ?_; rintro e w' ⟨rfl, rfl⟩; rw [HQ.out]) | (at_builtin; refine app1b Try.underlying22 infoInt64 rfl (by decide) rfl _ _ rfl w4.heap.size w2.heap.size _ _ rfl (o5.alloc _) _ _ _ rfl (cell_new1 _ _ _) rfl hlen (by simp; omega) ?_; intro v' w6 ho6 hb6; have hq6 := put_end ho6; obtain ⟨A1, k1, rfl, hp6⟩ := hq6.opn; rw [putL_len (Nat.le_refl _)] at hp6; obtain ⟨g, k4, hv6, hbg, hgs⟩ := hp6.form (by omega); injection hv6 with hv1 hv2 hv3; subst hv1; subst hv3; rw [putL_len (Nat.le_refl _)]))
          have hB6 : Below w4.heap.size w4 w6 := (hb5.alloc hz5 _).trans hb6
          clear ho6 hq6 o5 hb6
          go_loopw [11] (fun i wr => ∃ j : Nat, j ≤ S.length ∧ i = .int .i64 j ∧ wr.ownsRow w4.heap.size 2 1 (.slice (some ⟨g, 0, none⟩) (S.length + 1) k1) (S.length + 1) ((putL S y j).map (Value.int .i64)) ∧ Below w4.heap.size w4 wr ∧ ∀ z ∈ S.drop j, y ≤ z) (fun i _ => (intOf i).toNat)
          case atStart => exact ⟨S.length, Nat.le_refl _, by go_num, hp6, hB6, by simp⟩
          case round =>
            clear hp6 hB6
            obtain ⟨j, hj, rfl, o7, hB7, hhi⟩ := hrel
            have hex : ∀ (_ : j = 0 ∨ S.getD (j - 1) 0 ≤ y), putL S y j = sortL (keepL C word far (k + 1)) := fun h => by rw [HT.out]; exact putL_done HS.out.symm hj hhi h
            have HE := Lib.hid hex
            clear hex
            by_cases hj0 : j = 0
            · subst hj0
              have hpl := HE.out (.inl rfl)
              have HP := Lib.hid hpl
              clear hpl
              go_wp2_with fail
              go_region
              go_wp2
              go_roundw
              case rel =>
                refine ⟨k + 1, by omega, by go_num, .inr ?_, ?_⟩
                · rw [← HP.out]; unfold Ow; rw [List.length_map, putL_len hj]; exact own_below o7 (below_of_drewN _ wr 1) (Nat.le_refl _)
                · exact below_drewN hB7 1
              case measure => simp [intOf]; omega
            · obtain ⟨i, rfl⟩ : ∃ i, j = i + 1 := ⟨j - 1, by omega⟩
              have hi : i < S.length := by omega
              have cy := row_cell o7 (j := i + 1) (by omega)
              have cz := row_cell o7 (j := i) (by omega)
              rw [putL_at hj] at cy
              rw [putL_low hj (Nat.lt_succ_self i)] at cz
              obtain ⟨z, hz⟩ : ∃ z, S.getD i 0 = z := ⟨_, rfl⟩
              rw [hz] at cz
              by_cases hyz : y < z
              · have hhi2 := drop_hi hi hhi (by rw [hz]; exact hyz)
                have o8 := own_below o7 (below_of_drewN _ wr 1) (Nat.le_refl _)
                have hB8 := below_drewN hB7 1
                have hsw := putL_swap (x := y) hi
                rw [hz] at hsw
                have HSW := Lib.hid hsw
                have HH := Lib.hid hhi2
                clear hhi hsw hhi2 hz
                go_wp2_with fail
                go_region
                obtain ⟨w7, e7⟩ : ∃ q : World, q = wr.drewN 1 := ⟨_, rfl⟩
                rw [← e7] at o8 hB8
                have e8 : wr.drew = w7 := e7.symm
                rw [e8]
                have cy2 : w7.cell? ⟨g, i + 1, none⟩ = some (.int .i64 y) := by rw [e7]; exact cy
                have cz2 : w7.cell? ⟨g, i, none⟩ = some (.int .i64 z) := by rw [e7]; exact cz
                have hfz := o8.frozenAt (i + 1)
                have hfz2 := o8.frozenAt i
                have hs1 := o8.stored (i + 1) (.int .i64 z)
                have hs2 := hs1.1.stored i (.int .i64 y)
                have hy3 : ∃ u, (w7.setCell ⟨g, i + 1, none⟩ (.int .i64 z)).cell? ⟨g, i, none⟩ = some u := by
                  have h1 : (w7.setCell ⟨g, i + 1, none⟩ (.int .i64 z)).cell? ⟨g, i, none⟩ = (((putL S y (i + 1)).map (Value.int .i64)).set (i + 1) (.int .i64 z))[i]? := hs1.1.cellAt i (by omega)
                  rw [h1]
                  exact ⟨_, List.getElem?_eq_getElem (by rw [List.length_set, List.length_map, putL_len hj]; omega)⟩
                obtain ⟨u, hy3⟩ := hy3
                have e1 : ((i + 1 : Nat) : Int) - 1 = (i : Int) := by omega
                have HS2 := Lib.hid hs2
                clear e7 e8 o7 hB7 cy cz hs1 hs2 o8
                go_wp2
                go_roundw
                case rel =>
                  refine ⟨i, by omega, by go_num, ?_, (hB8.setCell (p := ⟨g, i + 1, none⟩) hbg _).setCell (p := ⟨g, i, none⟩) hbg _, HH.out⟩
                  rw [← HSW.out, List.map_set, List.map_set]
                  exact HS2.out.1
                case measure => first | (simp [intOf]; done) | (simp [intOf]; omega)
              · have hpl := HE.out (.inr (by simp only [Nat.add_sub_cancel]; omega))
                have HP := Lib.hid hpl
                clear hpl
                go_wp2_with fail
                go_region
                go_wp2
                go_roundw
                case rel =>
                  refine ⟨k + 1, by omega, by go_num, .inr ?_, ?_⟩
                  · rw [← HP.out]; unfold Ow; rw [List.length_map, putL_len hj]; exact own_below o7 (below_of_drewN _ wr 1) (Nat.le_refl _)
                  · exact below_drewN hB7 1
                case measure => simp [intOf]; omega
        · have hks := hks (decide_eq_false hqf)
          have HT := Lib.hid hks
          clear hks hkt
          go_wp2_with (go_at_call 29; refine (spec_l06Weight_c _ (xorI y word) hyb.1 hyb.2).mono ?_; rintro e w' ⟨rfl, rfl⟩; rw [HQ.out])
          go_roundw
          case rel => exact ⟨k + 1, by omega, by go_num, by rw [HT.out]; exact o5, hb5⟩
          case measure => simp [intOf]; omega
      · have : k = C.length := by omega
        subst this
        rw [keepL_all] at o5
        have o6 := o5.done (own_below o4 hb5 (Nat.le_refl _)) hz4
        go_wp2
        go_ret2
        exact ⟨_, rfl, o6, hB4.trans (hb5.mono hz4)⟩

end Go.Proofs.Ytlipejcmjhmnaaa
