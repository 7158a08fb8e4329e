/-
  Contract: codes with one digit less, of the program.
  Conditions: valid codes.
-/
import Derived.Test.YtldnhflgpbcmeaaEW
import Derived.Test.YtldnhflgpbcmeaaEE
import Derived.Test.YtldnhflgpbcmeaaEI
import Derived.Deep.QuietTactic
import Derived.BigQuiet
namespace Go.Proofs.Ytldnhflgpbcmeaa
open Go.RowKit


theorem Sl.put_far {w : World} {B : Nat} {A : Option Addr} {xs : List Value} (h : Sl w B A xs) {c : Nat} (hne : ∀ p : Addr, A = some p → c ≠ p.block) (o : Nat) (v : Value) : Sl (w.setCell ⟨c, o, none⟩ v) B A xs := by
  rcases h with rfl | ⟨b, off, rfl, hb, hc⟩
  · exact .inl rfl
  · have hcb := hne _ rfl
    refine .inr ⟨b, off, rfl, hb, fun j u hu => ?_⟩
    have hbk : (w.setCell ⟨c, o, none⟩ v).heap[b]? = w.heap[b]? := Below.heap_setCell _ _ _ b (fun e => hcb e.symm)
    have := hc j u hu
    unfold World.cell? at this ⊢
    rw [hbk]
    exact this
theorem hasD_at {w : World} {x i : Int} {q : Nat} (h0 : 0 ≤ i) (h1 : i ≤ 63) : Calls Try.prog 32 #[.int .i64 x, .int .i64 i] (w.drewN q) fun e w' => e = .returned (.bool (hasD x i)) ∧ ∃ k, w' = w.drewN k := by
  refine (impl_hasDigit_c _ x i h0 h1).mono ?_
  rintro e w' ⟨rfl, rfl⟩
  exact ⟨rfl, q, rfl⟩
/-- rows without the one with the greatest digit -/
def cutL (M : Nat) (E : List Int) : List Int := if hasD (E.getD 0 0) (M : Int) then E.drop 1 else E
set_option maxRecDepth 100000 in
set_option maxHeartbeats 4000000 in
theorem impl_ShortenParity_c (w : World) (M : Nat) (hM : M < 16) (hM1 : 1 ≤ M) (A : Option Addr) (n cap : Nat) (xs : List Int) (hl : xs.length = n) (hx : Sl w w.heap.size A (xs.map (Value.int .i64))) (hv : validParB ((M + 1 : Nat) : Int) xs = true) :
    Calls Try.prog 16 #[.agg #[.int .i64 ((M : Int) + 1), .slice A n cap]] w fun e w' => ∃ S N k, (cutL M (echL (M + 1) xs)).length = N ∧ e = .returned (asP (M : Int) S N k (validParB (M : Int) (cutL M (echL (M + 1) xs)))) ∧ Sl w' w'.heap.size S ((cutL M (echL (M + 1) xs)).map (Value.int .i64)) ∧ Below w.heap.size w w' := by
  have hdu := du_of hv
  have h8 := hdu.n8
  have h1 := hdu.n1
  have hel := hdu.el
  rw [hl] at h8 h1 hel
  obtain ⟨w1, e1⟩ : ∃ q : World, q = (w.alloc (.cells #[.int .i64 ((M : Int) + 1), .slice A n cap] 27)).alloc (.cells #[.int .i64 0, .slice none 0 0] 27) := ⟨_, rfl⟩
  have b1 : Below w.heap.size w w1 := by rw [e1]; exact ((Below.refl _ _).alloc (Nat.le_refl _) _).alloc (by simp) _
  have z1 : w1.heap.size = w.heap.size + 1 + 1 := by rw [e1]; simp
  have hq : Obj w1 w.heap.size 27 #[.int .i64 ((M : Int) + 1), .slice A n cap] := by rw [e1]; exact (Obj.new _ _ _).alloc _
  have hr : Obj w1 (w.heap.size + 1) 27 #[.int .i64 0, .slice none 0 0] := by
    have := Obj.new (w.alloc (.cells #[.int .i64 ((M : Int) + 1), .slice A n cap] 27)) 27 #[.int .i64 0, .slice none 0 0]
    rw [e1]; simpa using this
  have hx1 := (hx.below b1).more b1.size
  obtain ⟨⟨c0, c1⟩, -⟩ := hq.two
  have HH := Lib.hid (impl_ValidParity_c w1 ((M + 1 : Nat) : Int) A n cap xs hl (by omega) hx1)
  have HEC := Lib.hid (fun W hW => impl_echelon_c W (M + 1) (by omega) A n cap xs hl h1 h8 hW)
  rw [hv] at HH
  push_cast at HH
  have HX := Lib.hid hx1
  have HQ := Lib.hid hq
  have HR := Lib.hid hr
  obtain ⟨E, hE⟩ : ∃ E, echL (M + 1) xs = E := ⟨_, rfl⟩
  have hE2 : (stepsOf ((M : Int) + 1) xs).1 = E := by rw [← hE]; unfold echL; push_cast; rfl
  rw [hE] at hel ⊢
  have HE := Lib.hid hE2
  have HEL := Lib.hid hel
  have h0E : 0 < E.length := by omega
  have hcut : cutL M E = if hasD (E.getD 0 0) (M : Int) then E.drop 1 else E := rfl
  obtain ⟨y, hy⟩ : ∃ y, E.getD 0 0 = y := ⟨_, rfl⟩
  rw [hy] at hcut
  have HY := Lib.hid hy
  obtain ⟨C, hC⟩ : ∃ C, cutL M E = C := ⟨_, rfl⟩
  rw [hC] at hcut ⊢
  obtain ⟨bb, hbb⟩ : ∃ bb, validParB (M : Int) C = bb := ⟨_, rfl⟩
  rw [hbb]
  have HBB := Lib.hid hbb
  have hM2 : ¬ ((M : Int) + 1 < 2) := by omega
  have HC := Lib.hid hcut
  clear hx hx1 hq hr hv hdu hl hE hE2 hC hbb hel hcut hy
  go_enter Try.func16, Try.ntmps16
  go_wp2_with (rw [← e1]; clear e1)
  refine HH.out.mono ?_
  rintro e w2 ⟨rfl, b2⟩
  have z2 := b2.size
  have hq := HQ.out.below b2 (by omega)
  clear c0 c1
  obtain ⟨⟨c0, c1⟩, -⟩ := hq.two
  have HX2 := Lib.hid ((HX.out.below b2).more b2.size)
  have HQ2 := Lib.hid hq
  have HR2 := Lib.hid (HR.out.below b2 (by omega))
  clear hq HX HQ HR
  have HE2 := Lib.hid (HEC.out w2 HX2.out)
  push_cast at HE2
  go_wp2_with fail
  refine HE2.out.mono ?_
  rintro e w3 ⟨v, rfl, ho, b3⟩
  rw [HE.out] at ho
  obtain ⟨S, k, rfl, hp⟩ := ho.opn
  rw [HEL.out] at hp ⊢
  have z3 := b3.size
  obtain ⟨g, k2, hv2, hbg, hgs⟩ := hp.form (by omega)
  cases hv2
  have hnk : n ≤ k := by
    rcases hp.2 with ⟨h, _⟩ | ⟨g', cap', cur, hv, _, _, h1, _⟩
    · cases h
    · cases hv; exact h1
  have hc0 := row_cell hp (j := 0) (by omega)
  rw [HY.out] at hc0
  have HP := Lib.hid hp
  have HQ3 := Lib.hid (HQ2.out.below b3 (by omega))
  have HR3 := Lib.hid (HR2.out.below b3 (by omega))
  have B3 := b1.trans ((b2.trans (b3.mono z2)).mono b1.size)
  clear c0 c1 ho hp b3 hgs
  obtain ⟨⟨c0, c1⟩, -⟩ := HQ3.out.two
  have hMM : IntKind.i64.wrap ((M : Int) + 1 - 1) = (M : Int) := by rw [Int.add_sub_cancel]; exact IntWalk.i64_in _ (by omega)
  go_wp2
  go_quiet ((go_at_call 32; exact hasD_at (by omega) (by omega)))
  have HWD := Lib.hid (show Below w3.heap.size w3 (w3.drewN nq) from below_drewN (Below.refl _ _) nq)
  obtain ⟨w4, h4⟩ : ∃ W, w3.drewN nq = W := ⟨_, rfl⟩
  rw [h4] at HWD
  rw [h4]
  have HQ4 := Lib.hid (HQ3.out.below HWD.out HQ3.out.lt)
  have HR4 := Lib.hid (HR3.out.below HWD.out HR3.out.lt)
  have HP4 := Lib.hid (own_below HP.out HWD.out (Nat.le_refl _))
  have B4 := B3.trans (HWD.out.mono B3.size)
  clear hc0 c0 c1 h4
  obtain ⟨⟨c0, c1⟩, -⟩ := HQ4.out.two
  have hgz : w.heap.size + 1 < g := by omega
  have hz3w : w3.heap.size ≤ w4.heap.size := HWD.out.size
  cases hD : hasD y (M : Int)
  · have hC := HC.out
    rw [hD] at hC
    simp only [Bool.false_eq_true, if_false] at hC
    subst hC
    have HSL := Lib.hid (sl_of_own HP4.out)
    have HN := Lib.hid HEL.out
    have HA := Lib.hid (impl_asParity_c w4 (M : Int) _ n k C HEL.out (by omega) HSL.out)
    rw [HBB.out] at HA
    go_wp2_with fail
    refine HA.out.mono ?_
    rintro e w5 ⟨rfl, b5⟩
    have hsl := HSL.out.below b5
    have hsz := b5.size
    obtain ⟨⟨d0, d1⟩, g0, g1⟩ := (HR4.out.below b5 HR4.out.lt).two
    have B5 := B4.trans (b5.mono B4.size)
    have hz5 : w.heap.size + 1 < w5.heap.size := by omega
    clear c0 c1 b5
    cases bb
    · simp only [asP]
      go_wp2
      refine bodyPost_ret (v := .tuple #[.agg #[.int .i64 0, .slice none 0 0], .bool false]) (by unfold results; rw [Try.results16]; go_simp) rfl ?_
      refine ⟨some ⟨g, 0, none⟩, n, k, HN.out, rfl, ?_, ?_⟩
      · refine Sl.more (B := w4.heap.size) ?_ (by simp; omega)
        iterate 2 (refine Sl.put_far ?_ (fun p hp => by cases hp; simp only []; omega) _ _)
        exact hsl
      · iterate 2 (refine below_put ?_ (by omega) _ _)
        exact B5
    · simp only [asP]
      go_wp2
      refine bodyPost_ret (v := .tuple #[.agg #[.int .i64 (M : Int), .slice (some ⟨g, 0, none⟩) (n) (k)], .bool true]) (by unfold results; rw [Try.results16]; go_simp) rfl ?_
      refine ⟨some ⟨g, 0, none⟩, n, k, HN.out, rfl, ?_, ?_⟩
      · refine Sl.more (B := w4.heap.size) ?_ (by simp; omega)
        iterate 2 (refine Sl.put_far ?_ (fun p hp => by cases hp; simp only []; omega) _ _)
        exact hsl
      · iterate 2 (refine below_put ?_ (by omega) _ _)
        exact B5
  · have hC := HC.out
    rw [hD] at hC
    simp only [if_true] at hC
    have hsd := (sl_of_own HP4.out).dropped (k := 1)
    rw [← List.map_drop, ← hC] at hsd
    have HSL := Lib.hid hsd
    have hCn : C.length = n - 1 := by rw [hC, List.length_drop, HEL.out]
    have HN := Lib.hid hCn
    have HSX := Lib.hid (fun (S : Option Addr) (k : Nat) (hS : Sl w4 w4.heap.size S (C.map (Value.int .i64))) => impl_asParity_c w4 (M : Int) S (n - 1) k C hCn (by omega) hS)
    rw [HBB.out] at HSX
    clear hC hsd hCn
    go_wp2_with fail
    · have hn1 : n = 1 := by omega
      have hCl := HN.out
      have hC0 : C = [] := List.eq_nil_of_length_eq_zero (by omega)
      have HSN := Lib.hid (show Sl w4 w4.heap.size (some ⟨g, 0, none⟩) (C.map (Value.int .i64)) by rw [hC0]; exact Sl.nil)
      have HA := Lib.hid (HSX.out _ 0 HSN.out)
      clear hCl hC0
      refine HA.out.mono ?_
      rintro e w5 ⟨rfl, b5⟩
      have hsl := HSN.out.below b5
      have hsz := b5.size
      obtain ⟨⟨d0, d1⟩, g0, g1⟩ := (HR4.out.below b5 HR4.out.lt).two
      have B5 := B4.trans (b5.mono B4.size)
      have hz5 : w.heap.size + 1 < w5.heap.size := by omega
      clear c0 c1 b5
      cases bb
      · simp only [asP]
        go_wp2
        refine bodyPost_ret (v := .tuple #[.agg #[.int .i64 0, .slice none 0 0], .bool false]) (by unfold results; rw [Try.results16]; go_simp) rfl ?_
        refine ⟨some ⟨g, 0, none⟩, n - 1, 0, HN.out, rfl, ?_, ?_⟩
        · refine Sl.more (B := w4.heap.size) ?_ (by simp; omega)
          iterate 2 (refine Sl.put_far ?_ (fun p hp => by cases hp; simp only []; omega) _ _)
          exact hsl
        · iterate 2 (refine below_put ?_ (by omega) _ _)
          exact B5
      · simp only [asP]
        go_wp2
        refine bodyPost_ret (v := .tuple #[.agg #[.int .i64 (M : Int), .slice (some ⟨g, 0, none⟩) (n - 1) (0)], .bool true]) (by unfold results; rw [Try.results16]; go_simp) rfl ?_
        refine ⟨some ⟨g, 0, none⟩, n - 1, 0, HN.out, rfl, ?_, ?_⟩
        · refine Sl.more (B := w4.heap.size) ?_ (by simp; omega)
          iterate 2 (refine Sl.put_far ?_ (fun p hp => by cases hp; simp only []; omega) _ _)
          exact hsl
        · iterate 2 (refine below_put ?_ (by omega) _ _)
          exact B5
    · have HA := Lib.hid (HSX.out _ (k - 1) HSL.out)
      refine HA.out.mono ?_
      rintro e w5 ⟨rfl, b5⟩
      have hsl := HSL.out.below b5
      have hsz := b5.size
      obtain ⟨⟨d0, d1⟩, g0, g1⟩ := (HR4.out.below b5 HR4.out.lt).two
      have B5 := B4.trans (b5.mono B4.size)
      have hz5 : w.heap.size + 1 < w5.heap.size := by omega
      clear c0 c1 b5
      cases bb
      · simp only [asP]
        go_wp2
        refine bodyPost_ret (v := .tuple #[.agg #[.int .i64 0, .slice none 0 0], .bool false]) (by unfold results; rw [Try.results16]; go_simp) rfl ?_
        refine ⟨some ⟨g, 1, none⟩, n - 1, k - 1, HN.out, rfl, ?_, ?_⟩
        · refine Sl.more (B := w4.heap.size) ?_ (by simp; omega)
          iterate 2 (refine Sl.put_far ?_ (fun p hp => by cases hp; simp only []; omega) _ _)
          exact hsl
        · iterate 2 (refine below_put ?_ (by omega) _ _)
          exact B5
      · simp only [asP]
        go_wp2
        refine bodyPost_ret (v := .tuple #[.agg #[.int .i64 (M : Int), .slice (some ⟨g, 1, none⟩) (n - 1) (k - 1)], .bool true]) (by unfold results; rw [Try.results16]; go_simp) rfl ?_
        refine ⟨some ⟨g, 1, none⟩, n - 1, k - 1, HN.out, rfl, ?_, ?_⟩
        · refine Sl.more (B := w4.heap.size) ?_ (by simp; omega)
          iterate 2 (refine Sl.put_far ?_ (fun p hp => by cases hp; simp only []; omega) _ _)
          exact hsl
        · iterate 2 (refine below_put ?_ (by omega) _ _)
          exact B5

end Go.Proofs.Ytldnhflgpbcmeaa
