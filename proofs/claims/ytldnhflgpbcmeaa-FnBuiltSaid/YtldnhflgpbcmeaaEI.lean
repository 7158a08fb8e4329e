/-
  Contract: the other code of a code as a parity, of the program.
  Conditions: valid codes.
-/
import Derived.Test.YtldnhflgpbcmeaaEG
import Derived.Test.YtldnhflgpbcmeaaAP
import Derived.Deep.RegionHeld3
namespace Go.Proofs.Ytldnhflgpbcmeaa
open Go.RowKit

theorem cell_set_other (w : World) (a b : Addr) (v : Value) (h : a ≠ b) : (w.setCell a v).cell? b = w.cell? b := by
  first | exact World.cell?_setCell_other w h | exact World.cell?_setCell_other w v h | exact World.cell?_setCell_other w a b v h
theorem cell_put {w : World} {a o b p q : Nat} {u v x : Value} (h : w.cell? ⟨a, o, none⟩ = some u) (hne : a ≠ b) : ((w.setCell ⟨b, p, none⟩ v).setCell ⟨b, q, none⟩ x).cell? ⟨a, o, none⟩ = some u := by
  have e : (⟨b, q, none⟩ : Addr) ≠ ⟨a, o, none⟩ := fun he => hne (by cases he; rfl)
  have e2 : (⟨b, p, none⟩ : Addr) ≠ ⟨a, o, none⟩ := fun he => hne (by cases he; rfl)
  exact (cell_set_other _ _ _ _ e).trans ((cell_set_other _ _ _ _ e2).trans h)

set_option maxRecDepth 100000 in
set_option maxHeartbeats 1000000 in
theorem impl_DualOf_c (w : World) (M : Nat) (A : Option Addr) (n cap : Nat) (xs : List Int) (hl : xs.length = n) (hx : Sl w w.heap.size A (xs.map (Value.int .i64))) (hv : validParB (M : Int) xs = true) :
    Calls Try.prog 23 #[.agg #[.int .i64 (M : Int), .slice A n cap]] w fun e w' => ∃ S k, e = .returned (asP (M : Int) S (dualL M xs).length k (validParB (M : Int) (dualL M xs))) ∧ w'.ownsRow w.heap.size 2 1 (.slice S (dualL M xs).length k) (dualL M xs).length ((dualL M xs).map (Value.int .i64)) ∧ Below w.heap.size w w' := by
  have hd := du_of hv
  have hm := hd.m
  have h1 := hd.n1
  have h8 := hd.n8
  have hdl := hd.len
  rw [hl] at h1 h8 hdl
  clear hd
  obtain ⟨w1, e1⟩ : ∃ q : World, q = (w.alloc (.cells #[.int .i64 (M : Int), .slice A n cap] 27)).alloc (.cells #[.int .i64 0, .slice none 0 0] 27) := ⟨_, rfl⟩
  have b1 : Below w.heap.size w w1 := by rw [e1]; exact ((Below.refl _ _).alloc (Nat.le_refl _) _).alloc (by simp) _
  have z1 : w1.heap.size = w.heap.size + 1 + 1 := by rw [e1]; simp
  have hq : Obj w1 w.heap.size 27 #[.int .i64 (M : Int), .slice A n cap] := by rw [e1]; exact (Obj.new _ _ _).alloc _
  have hr : Obj w1 (w.heap.size + 1) 27 #[.int .i64 0, .slice none 0 0] := by
    have := Obj.new (w.alloc (.cells #[.int .i64 (M : Int), .slice A n cap] 27)) 27 #[.int .i64 0, .slice none 0 0]
    rw [e1]; simpa using this
  have hx1 := (hx.below b1).more b1.size
  obtain ⟨⟨c0, c1⟩, -⟩ := hq.two
  have HH := Lib.hid (impl_ValidParity_c w1 M A n cap xs hl (by omega) hx1)
  have HX := Lib.hid hx1
  have HQ := Lib.hid hq
  have HR := Lib.hid hr
  have HV := Lib.hid hv
  have HD := Lib.hid (fun W hW => impl_dual_c W M A n cap xs hl hW hv)
  obtain ⟨D, hD⟩ : ∃ D, dualL M xs = D := ⟨_, rfl⟩
  rw [hD] at HD hdl ⊢
  obtain ⟨dn, hdn⟩ : ∃ dn, D.length = dn := ⟨_, rfl⟩
  rw [hdn] at hdl ⊢
  obtain ⟨bb, hbb⟩ : ∃ bb, validParB (M : Int) D = bb := ⟨_, rfl⟩
  have HA := Lib.hid (fun W S k hS => impl_asParity_c W (M : Int) S dn k D hdn (by omega) hS)
  rw [hbb] at HA ⊢
  have HDN := Lib.hid hdn
  clear hx hx1 hq hr hv hD hbb hdn
  go_enter Try.func23, Try.ntmps23
  go_wp2_with (rw [← e1]; clear e1)
  clear c0 c1
  refine HH.out.mono ?_
  rintro e w2 ⟨rfl, b2⟩
  rw [HV.out]
  have z2 := b2.size
  have hq := HQ.out.below b2 (by omega)
  have hr := HR.out.below b2 (by omega)
  obtain ⟨⟨c0, c1⟩, -⟩ := hq.two
  have hx2 := (HX.out.below b2).more b2.size
  have HX2 := Lib.hid hx2
  have HQ2 := Lib.hid hq
  have HR2 := Lib.hid hr
  clear hq hr hx2 HH
  cases bb
  · simp only [asP] at HA ⊢
    go_wp2_with fail
    go_region_held3 (fun w' => w'.cell? ⟨w.heap.size, 0, none⟩ = some (.int .i64 (M : Int)) ∧ w'.cell? ⟨w.heap.size, 1, none⟩ = some (.slice A n cap))
      (first | exact ⟨g0, g1⟩ | exact ⟨f0, f1⟩ | exact ⟨c0, c1⟩ | exact ⟨(cell_put g0 (by omega)), (cell_put g1 (by omega))⟩)
      (first
        | (go_at_call 33; refine (HA.out w3 S k (sl_of_own HP.out)).mono ?_; rintro e w4 ⟨rfl, b4⟩; have g0 := (b4.cell (p := ⟨w.heap.size, 0, none⟩) (by simp only []; omega)).trans f0; have g1 := (b4.cell (p := ⟨w.heap.size, 1, none⟩) (by simp only []; omega)).trans f1; have B4 := b3.trans (b4.mono z3); obtain ⟨⟨r0, r1⟩, s0, s1⟩ := (HR2.out.below B4 (by omega)).two)
        | (go_at_call 47; refine (HD.out w2.drew HX2.out).mono ?_; rintro e w3 ⟨v, rfl, ho, b3⟩; have b3 := below_undrew b3; have z3 := b3.size; obtain ⟨S, k, rfl, hp⟩ := ho.opn; rw [HDN.out] at hp; rw [HDN.out]; have HP := Lib.hid hp; have f0 := (b3.cell (p := ⟨w.heap.size, 0, none⟩) (by simp only []; omega)).trans c0; have f1 := (b3.cell (p := ⟨w.heap.size, 1, none⟩) (by simp only []; omega)).trans c1; clear ho hp))
    all_goals
      go_wp2
      refine bodyPost_ret (v := .tuple #[.agg #[.int .i64 0, .slice none 0 0], .bool false]) (by unfold results; rw [Try.results23]; go_simp) rfl ?_
      refine ⟨S, k, rfl, ?_, ?_⟩
      · refine own_base (base := w2.heap.size) ?_ (by omega)
        iterate 2 (refine ownsRow_setCell_below ?_ (by simp; omega) _)
        exact own_below HP.out b4 (Nat.le_refl _)
      · iterate 2 (refine below_put ?_ (by omega) _ _)
        exact b1.trans ((b2.trans (B4.mono b2.size)).mono b1.size)
  · simp only [asP] at HA ⊢
    go_wp2_with fail
    go_region_held3 (fun w' => w'.cell? ⟨w.heap.size, 0, none⟩ = some (.int .i64 (M : Int)) ∧ w'.cell? ⟨w.heap.size, 1, none⟩ = some (.slice A n cap))
      (first | exact ⟨g0, g1⟩ | exact ⟨f0, f1⟩ | exact ⟨c0, c1⟩ | exact ⟨(cell_put g0 (by omega)), (cell_put g1 (by omega))⟩)
      (first
        | (go_at_call 33; refine (HA.out w3 S k (sl_of_own HP.out)).mono ?_; rintro e w4 ⟨rfl, b4⟩; have g0 := (b4.cell (p := ⟨w.heap.size, 0, none⟩) (by simp only []; omega)).trans f0; have g1 := (b4.cell (p := ⟨w.heap.size, 1, none⟩) (by simp only []; omega)).trans f1; have B4 := b3.trans (b4.mono z3); obtain ⟨⟨r0, r1⟩, s0, s1⟩ := (HR2.out.below B4 (by omega)).two)
        | (go_at_call 47; refine (HD.out w2.drew HX2.out).mono ?_; rintro e w3 ⟨v, rfl, ho, b3⟩; have b3 := below_undrew b3; have z3 := b3.size; obtain ⟨S, k, rfl, hp⟩ := ho.opn; rw [HDN.out] at hp; rw [HDN.out]; have HP := Lib.hid hp; have f0 := (b3.cell (p := ⟨w.heap.size, 0, none⟩) (by simp only []; omega)).trans c0; have f1 := (b3.cell (p := ⟨w.heap.size, 1, none⟩) (by simp only []; omega)).trans c1; clear ho hp))
    all_goals
      go_wp2
      refine bodyPost_ret (v := .tuple #[.agg #[.int .i64 (M : Int), .slice S dn k], .bool true]) (by unfold results; rw [Try.results23]; go_simp) rfl ?_
      refine ⟨S, k, rfl, ?_, ?_⟩
      · refine own_base (base := w2.heap.size) ?_ (by omega)
        iterate 2 (refine ownsRow_setCell_below ?_ (by simp; omega) _)
        exact own_below HP.out b4 (Nat.le_refl _)
      · iterate 2 (refine below_put ?_ (by omega) _ _)
        exact b1.trans ((b2.trans (B4.mono b2.size)).mono b1.size)

end Go.Proofs.Ytldnhflgpbcmeaa
