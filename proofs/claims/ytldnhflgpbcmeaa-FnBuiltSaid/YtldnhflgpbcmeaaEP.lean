/-
  Contracts: a valid code drawn from bytes.
  Conditions: at most 1048576 bytes.
-/
import Derived.Test.YtldnhflgpbcmeaaXS
import Derived.Test.YtldnhflgpbcmeaaEB
import Derived.Deep.RegionLaw
import Derived.Deep.AppendLies
import Derived.BigRegion
namespace Go.Proofs.Ytldnhflgpbcmeaa
open Go.RowKit

theorem info_parts {P : Program} {e : TypeId} {z : Value} {n b : Nat} (h : (P.info? e).map (fun i => (i.zero, i.size, i.bytes)) = some (some z, n, b)) : ∃ i, P.info? e = some i ∧ i.zero = some z ∧ i.size = n ∧ i.bytes = b := by
  cases hi : P.info? e with
  | none => rw [hi] at h; cases h
  | some i => rw [hi] at h; simp at h; exact ⟨i, rfl, h.1, h.2.1, h.2.2⟩
/-- a row without its last element -/
theorem own_cut {w : World} {base g n cap : Nat} {e : TypeId} {xs : List Value} {x : Value} (h : w.ownsRow base e 1 (.slice (some ⟨g, 0, none⟩) (n + 1) cap) (n + 1) (xs ++ [x])) : w.ownsRow base e 1 (.slice (some ⟨g, 0, none⟩) n cap) n xs := by
  have hl : xs.length = n := by have := h.1; simp at this; omega
  rcases h.2 with ⟨h1, _⟩ | ⟨g', cap', cur, hv, hb, hg, h1, h2, h3, h4⟩
  · cases h1
  · cases hv
    refine ⟨by omega, .inr ⟨g, cap, cur, rfl, hb, hg, by omega, h2, h3, ?_⟩⟩
    have := congrArg (List.take n) h4
    rw [List.take_take, List.take_left' hl] at this
    rw [show n * 1 = n by omega, ← this]
    congr 1
    omega
theorem one_valid : ∀ wd < 9, 2 ≤ wd → validParB ((wd : Nat) : Int) [1] = true := by decide +kernel


set_option maxRecDepth 100000 in
set_option maxHeartbeats 4000000 in
theorem l06DrawSides_c (w : World) (S B : Nat) (A : Option Addr) (n cap m : Nat) (c : List Int) (hl : c.length = n) (hn : n ≤ 1048576) (hb : ∀ x ∈ c, 0 ≤ x ∧ x ≤ 255) (hx : Sl w B A (c.map (Value.int .u8))) (hBS : B ≤ S) (hm : m ≤ 1048000) (ho : Src w S A n cap m) (wd rn : Nat) (hw2 : 2 ≤ wd) (hw8 : wd ≤ 8) (hr4 : rn ≤ 4) :
    Calls Try.prog 52 #[.pointer (some ⟨S, 0, none⟩), .int .i64 (wd : Int), .int .i64 (rn : Int)] w fun e w' => ∃ (v : Value) (xs : List Int), e = .returned (.agg #[.int .i64 (wd : Int), v]) ∧ Ow w' w.heap.size 2 v (xs.map (Value.int .i64)) ∧ validParB (wd : Int) xs = true ∧ xs.length ≤ 4 ∧ Src w' S A n cap (m + 8) ∧ Gr w.heap.size S w w' := by
  have hSz := ho.lt
  obtain ⟨w1, e1⟩ : ∃ q : World, q = (w.alloc (.cells #[.int .i64 0, .slice none 0 0] 27)).alloc (.cells #[.int .i64 (wd : Int), .slice none 0 0] 27) := ⟨_, rfl⟩
  have b1 : Below w.heap.size w w1 := by rw [e1]; exact ((Below.refl _ _).alloc (Nat.le_refl _) _).alloc (by simp) _
  have z1 : w1.heap.size = w.heap.size + 1 + 1 := by rw [e1]; simp
  have hR1 : Obj w1 w.heap.size 27 #[.int .i64 0, .slice none 0 0] := by rw [e1]; exact (Obj.new _ _ _).alloc _
  have hO1 : Obj w1 (w.heap.size + 1) 27 #[.int .i64 (wd : Int), .slice none 0 0] := by
    have := Obj.new (w.alloc (.cells #[.int .i64 0, .slice none 0 0] 27)) 27 #[.int .i64 (wd : Int), .slice none 0 0]
    rw [e1]; simpa using this
  have hs1 := ho.below b1 hSz
  have hBz : B ≤ w.heap.size := by omega
  have hsh : wrap64 (2 ^ wd) = 2 ^ wd := (wrap16 (M := wd) (by omega)).2.1
  have hcv : IntKind.u64.wrap (wd : Int) = (wd : Int) := IntWalk.u64_in _ (by omega)
  have hp2 : (1 : Int) ≤ 2 ^ wd ∧ (2 : Int) ^ wd ≤ 65536 := pow16 (by omega)
  have HX := Lib.hid hx
  have HB := Lib.hid hb
  obtain ⟨i0, hi, hzz0, hzz1, hzz2⟩ := info_parts infoInt64
  have HSH := Lib.hid hsh
  clear hx hb ho hsh
  obtain ⟨O, hO⟩ : ∃ O, w.heap.size + 1 = O := ⟨_, rfl⟩
  rw [hO] at hO1
  have hOz : w.heap.size < O := by omega
  have hO' := Lib.hid hO
  clear hO
  go_enter Try.func52, Try.ntmps52
  go_wp2_with (rw [← e1]; clear e1)
  rw [hO'.out]
  go_loopw [8] (fun i wr => ∃ (k : Nat) (xs : List Int) (v : Value), k ≤ rn ∧ i = .int .i64 k ∧ xs.length ≤ k ∧ (xs = [] ∨ validParB (wd : Int) xs = true) ∧ Obj wr w.heap.size 27 #[.int .i64 0, .slice none 0 0] ∧ Obj wr O 27 #[.int .i64 (wd : Int), v] ∧ wr.ownsRow (O + 1) 2 1 v xs.length (xs.map (Value.int .i64)) ∧ Src wr S A n cap (m + 2 * k) ∧ Gr w.heap.size S w wr ∧ O < wr.heap.size) (fun i _ => rn - (intOf i).toNat)
  case atStart => exact ⟨0, [], _, Nat.zero_le _, rfl, Nat.le_refl _, .inl rfl, hR1, hO1, World.ownsRow_nil _ _ _ _, hs1, Gr.of_below b1 (Nat.le_refl _), hO1.lt⟩
  case round =>
    clear hR1 hO1 hs1 b1
    obtain ⟨k, xs, v, hk, rfl, hxl, hxv, hR, hOb, hown, hs, hg, hz⟩ := hrel
    by_cases hlt : k < rn
    · obtain ⟨⟨c0, c1⟩, f0, f1⟩ := hOb.two
      obtain ⟨L, hL⟩ : ∃ L, xs.length = L := ⟨_, rfl⟩
      rw [hL] at hown hxl
      have hBr : B ≤ wr.heap.size := by omega
      have hxr := sl_gr HX.out hg hBS (by omega)
      have HP := Lib.hid (pick2_c wr.drew S B A n cap (m + 2 * k) c hl hn HB.out hxr hBS (by omega) (show Src wr.drew S A n cap (m + 2 * k) from hs) (2 ^ wd) hp2.1 hp2.2)
      have HL := Lib.hid hL
      have HV := Lib.hid hxv
      have HR := Lib.hid hR
      have HO := Lib.hid hOb
      have HW := Lib.hid hown
      have HG := Lib.hid hg
      clear hL hxv hR hOb hown hg hxr hs
      have hsh1 := HSH.out
      have hsh2 : IntKind.i64.wrap (2 ^ wd) = 2 ^ wd := (wrap16 (M := wd) (by omega)).1
      obtain ⟨P2, hP2⟩ : ∃ P2, (2 : Int) ^ wd = P2 := ⟨_, rfl⟩
      rw [hP2] at hsh1 hsh2 HP
      go_wp2_with fail
      go_region_law (first
        | (go_simp; go_at_call 51; refine HP.out.mono ?_; rintro e w2 ⟨x, rfl, hx0, hx1, hs2, hg2⟩; have hO2 := HO.out.drew.kept hg2 (by simp; omega); have hR2 := HR.out.drew.kept hg2 (by simp; omega); have hown2 := HW.out.drew.kept hg2 (by
            rcases own_ne HW.out (show S < O + 1 by omega) with h | h
            · exact .inl h
            · exact .inr h); have z2 : wr.heap.size ≤ w2.heap.size := hg2.size; obtain ⟨⟨d0, d1⟩, -⟩ := hO2.two; have d2 : (w2.alloc (.cells #[Value.int .i64 x] 2)).cell? ⟨O, 1, none⟩ = some v := ((hO2.alloc _).two).1.2)
        | (refine step_append_lies _ (by rfl) _ _ _ (by rfl) (O + 1) 2 i0 _ 1 8 Try.underlying25 hi hzz0 hzz1 hzz2 rfl (by omega) v L _ (by rfl) (World.ownsRow.alloc hown2 _) ⟨w2.heap.size, 0, none⟩ 1 1 [_] (by rfl) (by rfl) (World.news_of_block (cs := #[_]) (t := 2) (fr := (0, 0)) (heap_alloc_new w2 _)) (by simp [Value.oneCell']) (by omega) (by unfold maxLen; omega) (by omega) (by simp; omega) (w2.heap.size + 1) (by simp) ?_; intro gg cap2 w3 hown3 hgrow hat hltg; have hO3 := (hO2.alloc _).kept hgrow (hO2.not_row (by decide) hown2); have hR3 := (hR2.alloc _).kept hgrow (hR2.not_row (by decide) hown2); obtain ⟨⟨d0, d1⟩, g0, g1⟩ := hO3.two))
      all_goals
        obtain ⟨w4, e4⟩ : ∃ q : World, q = w3.setCell ⟨O, 1, none⟩ (.slice (some ⟨gg, 0, none⟩) (L + 1) cap2) := ⟨_, rfl⟩
        have hO4 : Obj w4 O 27 #[.int .i64 (wd : Int), .slice (some ⟨gg, 0, none⟩) (L + 1) cap2] := by rw [e4]; exact hO3.set 1 _
        have hR4 := hR3.far (b := O) (by omega) 1 (.slice (some ⟨gg, 0, none⟩) (L + 1) cap2)
        rw [← e4] at hR4
        have hown4 := hown3.kept (grownBy_set w3 O 1 (.slice (some ⟨gg, 0, none⟩) (L + 1) cap2)) (.inr (hO3.not_row (by decide) hown3).symm)
        rw [← e4] at hown4
        have hne : v.ownBlock = none ∨ v.ownBlock ≠ some S := own_ne hown2 (by omega)
        have hs3 := ((hs2.below ((Below.refl w2.heap.size w2).alloc (Nat.le_refl _) (Obj.cells #[Value.int .i64 x] 2)) hs2.lt).kept hgrow (by rcases hne with h | h <;> simp [h]))
        have hs4 := hs3.kept (grownBy_set w3 O 1 (.slice (some ⟨gg, 0, none⟩) (L + 1) cap2)) (by simp; omega)
        rw [← e4] at hs4
        have hzO2 : O < w2.heap.size := by omega
        have g2 : Gr w.heap.size S w w2 := HG.out.trans (Gr.of_grown (w := wr) ⟨hg2.os, hg2.tape, hg2.output, hg2.size, hg2.block⟩ (by omega))
        have g3 := (g2.trans (Gr.of_below ((Below.refl w2.heap.size w2).alloc (Nat.le_refl _) (Obj.cells #[Value.int .i64 x] 2)) (by omega))).trans (Gr.of_row hgrow (fun q hq => (hown2.lt q hq).1) (by omega) (by simp; omega))
        have g4 := g3.trans (Gr.of_far (grownBy_set w3 O 1 (.slice (some ⟨gg, 0, none⟩) (L + 1) cap2)) (by omega) (by have := hgrow.size; simp at this; omega))
        rw [← e4] at g4
        have z4 : O < w4.heap.size := hO4.lt
        rw [← List.map_singleton (f := Value.int .i64), ← List.map_append] at hown4
        have hxl1 : (xs ++ [x]).length = L + 1 := by rw [List.length_append, HL.out]; rfl
        have HI := Lib.hid (spec_l06Is_c w4 O w4.heap.size (wd : Int) (some ⟨gg, 0, none⟩) (L + 1) cap2 (xs ++ [x]) hO4.two.1.1 hO4.two.1.2 z4 (Nat.le_refl _) hxl1 (by omega) (sl_of_own hown4))
        obtain ⟨xs', hxs'⟩ : ∃ q, xs ++ [x] = q := ⟨_, rfl⟩
        rw [hxs'] at HI hown4 hxl1
        have HE := Lib.hid e4
        have HO4 := Lib.hid hO4
        have HW4 := Lib.hid hown4
        have HR4 := Lib.hid hR4
        have HS4 := Lib.hid hs4
        have HG4 := Lib.hid g4
        have HXX := Lib.hid hxs'
        have HXL := Lib.hid hxl1
        clear e4 hO4 hown4 hR4 hs4 g2 g3 g4 hs3 hs2 hg2 hO2 hR2 hown2 z2 d0 d1 d2 hown3 hgrow hat hltg hO3 hR3 g0 g1 c0 c1 f0 f1 hne hzO2 hxs' hxl1
        go_wp2_with (rw [← HE.out])
        refine HI.out.mono ?_
        rintro e w5 ⟨rfl, b5⟩
        have z5 := b5.size
        have hO5 := HO4.out.below b5 z4
        have hR5 := HR4.out.below b5 (by omega)
        have hown5 := own_below HW4.out b5 (Nat.le_refl _)
        have hs5 := HS4.out.below b5 HS4.out.lt
        have g5 := HG4.out.trans (Gr.of_below b5 (by omega))
        cases hvv : validParB (wd : Int) xs'
        · obtain ⟨⟨c0, c1⟩, f0, f1⟩ := hO5.two
          have hcut : w5.ownsRow (O + 1) 2 1 (.slice (some ⟨gg, 0, none⟩) L cap2) L (xs.map (Value.int .i64)) := by
            have h := hown5
            rw [← HXX.out, List.map_append] at h
            exact own_cut h
          have hO6 : Obj (w5.setCell ⟨O, 1, none⟩ (.slice (some ⟨gg, 0, none⟩) L cap2)) O 27 #[.int .i64 (wd : Int), .slice (some ⟨gg, 0, none⟩) L cap2] := hO5.set 1 _
          have hR6 := hR5.far (b := O) (by omega) 1 (.slice (some ⟨gg, 0, none⟩) L cap2)
          have hown6 := hcut.kept (grownBy_set w5 O 1 (.slice (some ⟨gg, 0, none⟩) L cap2)) (.inr (hO5.not_row (by decide) hcut).symm)
          have hs6 := hs5.kept (grownBy_set w5 O 1 (.slice (some ⟨gg, 0, none⟩) L cap2)) (by simp; omega)
          have g6 := g5.trans (Gr.of_far (grownBy_set w5 O 1 (.slice (some ⟨gg, 0, none⟩) L cap2)) (by omega) (by omega))
          have hcl : L + 1 ≤ cap2 := own_cap hown5 (by omega)
          have j1 : (0 : Int) ≤ (L : Int) := by omega
          have j2 : (L : Int) ≤ (cap2 : Int) := by omega
          have j3 : ((L : Int) + 1 - 1) = (L : Int) := by omega
          have H6 := Lib.hid (And.intro hO6 (And.intro hR6 (And.intro hown6 (And.intro hs6 g6))))
          clear hO5 hR5 hown5 hs5 g5 hcut hO6 hR6 hown6 hs6 g6 hcl
          go_wp2
          go_roundw
          case rel =>
            obtain ⟨hO6, hR6, hown6, hs6, g6⟩ := H6.out
            refine ⟨k + 1, xs, _, by omega, by go_num, by rw [HL.out]; omega, HV.out, hR6, hO6, by rw [HL.out]; exact hown6, hs6.more (by omega), g6, hO6.lt⟩
          case measure => simp [intOf]; omega
        · have H6 := Lib.hid (And.intro hO5 (And.intro hR5 (And.intro hown5 (And.intro hs5 g5))))
          clear hO5 hR5 hown5 hs5 g5
          have HVV := Lib.hid hvv
          clear hvv
          go_wp2
          go_roundw
          case rel =>
            obtain ⟨hO6, hR6, hown6, hs6, g6⟩ := H6.out
            refine ⟨k + 1, xs', _, by omega, by go_num, by rw [HXL.out]; omega, .inr HVV.out, hR6, hO6, by rw [HXL.out]; exact hown6, hs6.more (by omega), g6, hO6.lt⟩
          case measure => simp [intOf]; omega
    · obtain rfl : k = rn := by omega
      obtain ⟨⟨c0, c1⟩, f0, f1⟩ := hOb.two
      obtain ⟨⟨r0, r1⟩, q0, q1⟩ := hR.two
      obtain ⟨L, hL⟩ : ∃ L, xs.length = L := ⟨_, rfl⟩
      rw [hL] at hown hxl
      obtain ⟨AA, cc, rfl⟩ := own1_opn hown
      have HL := Lib.hid hL
      have HV := Lib.hid hxv
      have HR := Lib.hid hR
      have HO := Lib.hid hOb
      have HW := Lib.hid hown
      have HG := Lib.hid hg
      have HS := Lib.hid hs
      clear hL hxv hR hOb hown hg hs
      by_cases h0 : L = 0
      · subst h0
        have hxs0 : xs = [] := List.eq_nil_of_length_eq_zero HL.out
        subst hxs0
        have hapow : Ow wr (O + 1) 2 (.slice AA 0 cc) [] := HW.out
        have hlen : ([] : List Value).length + 1 ≤ 1099511627776 := by simp
        have ha : Below (O + 1) wr (wr.alloc (.cells #[Value.int .i64 1] 2)) := (Below.refl _ _).alloc (by omega) _
        have hO1 := HO.out.below ha (by omega)
        obtain ⟨⟨d0, d1⟩, g0, g1⟩ := hO1.two
        have HO1 := Lib.hid hO1
        clear hO1
        go_wp2_with (at_builtin; refine app1 Try.underlying25 infoInt64 rfl (by decide) rfl _ _ rfl (O + 1) (.slice AA 0 cc) [] rfl (hapow.alloc _) _ _ _ rfl (cell_new1 _ _ _) rfl hlen (by simp; omega) ?_; intro v' w7 ho7 hb7; have ho7 : w7.ownsRow (O + 1) 2 1 v' 1 [Value.int .i64 1] := ho7; obtain ⟨A7, c7, rfl⟩ := own1_opn ho7; have HO7 := Lib.hid ho7; clear ho7; have hO7 := HO1.out.below hb7 (by omega); have hR7 := (HR.out.below ha (by omega)).below hb7 (by omega); obtain ⟨⟨d0, d1⟩, g0, g1⟩ := hO7.two; obtain ⟨⟨r0, r1⟩, q0, q1⟩ := hR7.two)
        refine bodyPost_ret (v := .agg #[.int .i64 (wd : Int), .slice A7 1 c7]) (by unfold results; rw [Try.results52]; go_simp) rfl ?_
        refine ⟨.slice A7 1 c7, rfl, ([1] : List Int), ?_, one_valid wd (by omega) hw2, by decide, ?_, ?_⟩
        · refine own_base (base := O + 1) ?_ (by omega)
          iterate 2 (refine ownsRow_setCell_below ?_ (by simp only []; omega) _)
          refine ownsRow_setCell_below ?_ (by simp only []; omega) _
          exact HO7.out
        · refine Src.more ?_ (show m + 2 * k ≤ m + 8 by omega)
          iterate 2 (refine Src.kept ?_ (grownBy_set _ w.heap.size _ _) (by simp; omega))
          refine Src.kept ?_ (grownBy_set _ O _ _) (by simp; omega)
          exact (HS.out.below ha (by omega)).below hb7 (by omega)
        · have g7 : Gr w.heap.size S w w7 := (HG.out.trans (Gr.of_below ha (by omega))).trans (Gr.of_below hb7 (by omega))
          have z7 := hO7.lt
          refine Gr.trans (Gr.trans (Gr.trans g7 (Gr.of_far (grownBy_set _ O 1 _) (by omega) (by omega))) (Gr.of_far (grownBy_set _ w.heap.size 0 _) (Nat.le_refl _) (by simp; omega))) (Gr.of_far (grownBy_set _ w.heap.size 1 _) (Nat.le_refl _) (by simp; omega))
      · have hLp : 0 < L := by omega
        have hv : validParB (wd : Int) xs = true := by
          rcases HV.out with h | h
          · subst h
            have := HL.out
            simp at this
            omega
          · exact h
        have HVV := Lib.hid hv
        clear hv
        go_wp2
        refine bodyPost_ret (v := .agg #[.int .i64 (wd : Int), .slice AA L cc]) (by unfold results; rw [Try.results52]; go_simp) rfl ?_
        refine ⟨_, xs, rfl, ?_, HVV.out, by rw [HL.out]; omega, ?_, ?_⟩
        · unfold Ow
          rw [List.length_map, HL.out]
          refine own_base (base := O + 1) ?_ (by omega)
          iterate 2 (refine ownsRow_setCell_below ?_ (by simp only []; omega) _)
          exact HW.out
        · refine Src.more ?_ (show m + 2 * k ≤ m + 8 by omega)
          iterate 2 (refine Src.kept ?_ (grownBy_set _ w.heap.size _ _) (by simp; omega))
          exact HS.out
        · refine Gr.trans (Gr.trans HG.out (Gr.of_far (grownBy_set _ w.heap.size 0 _) (Nat.le_refl _) (by omega))) (Gr.of_far (grownBy_set _ w.heap.size 1 _) (Nat.le_refl _) (by simp; omega))

end Go.Proofs.Ytldnhflgpbcmeaa
