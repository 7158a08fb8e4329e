/-
  Contracts: codes with one digit more or less, of the program.
  Conditions: valid codes.
-/
import Derived.Test.YtldnhflgpbcmeaaEW
import Derived.Test.YtldnhflgpbcmeaaEE
import Derived.Deep.QuietTactic
import Derived.BigQuiet
namespace Go.Proofs.Ytldnhflgpbcmeaa
open Go.RowKit


set_option maxRecDepth 100000 in
set_option maxHeartbeats 1000000 in
theorem impl_ExtendParity_c (w : World) (M : Nat) (hM : M < 16) (A : Option Addr) (n cap : Nat) (xs : List Int) (hl : xs.length = n) (hx : Sl w w.heap.size A (xs.map (Value.int .i64))) (hv : validParB (M : Int) xs = true) :
    Calls Try.prog 14 #[.agg #[.int .i64 (M : Int), .slice A n cap]] w fun e w' => ∃ v, e = .returned (.tuple #[.agg #[.int .i64 ((M : Int) + 1), v], .bool true]) ∧ Ow w' w.heap.size 2 v ((extL M xs).map (Value.int .i64)) ∧ Below w.heap.size w w' := by
  have hdu := du_of hv
  have h8 := hdu.n8
  have hrm := hdu.rm
  have hve := ext_valid hv hM
  rw [hl] at h8
  obtain ⟨w1, e1⟩ : ∃ q : World, q = (w.alloc (.cells #[.int .i64 (M : Int), .slice A n cap] 27)).alloc (.cells #[.int .i64 0, .slice none 0 0] 27) := ⟨_, rfl⟩
  have b1 : Below w.heap.size w w1 := by rw [e1]; exact ((Below.refl _ _).alloc (Nat.le_refl _) _).alloc (by simp) _
  have z1 : w1.heap.size = w.heap.size + 1 + 1 := by rw [e1]; simp
  have hq : Obj w1 w.heap.size 27 #[.int .i64 (M : Int), .slice A n cap] := by rw [e1]; exact (Obj.new _ _ _).alloc _
  have hr : Obj w1 (w.heap.size + 1) 27 #[.int .i64 0, .slice none 0 0] := by
    have := Obj.new (w.alloc (.cells #[.int .i64 (M : Int), .slice A n cap] 27)) 27 #[.int .i64 0, .slice none 0 0]
    rw [e1]; simpa using this
  have hx1 := (hx.below b1).more b1.size
  obtain ⟨⟨c0, c1⟩, -⟩ := hq.two
  have HH := Lib.hid (impl_ValidParity_c w1 M A n cap xs hl (by omega) hx1)
  have HX := Lib.hid hx1
  have HQ := Lib.hid hq
  have HR := Lib.hid hr
  have HV := Lib.hid hv
  have HVE := Lib.hid hve
  have HL := Lib.hid hl
  have HRM := Lib.hid hrm
  clear hx hx1 hq hr hv hdu hve hrm
  go_enter Try.func14, Try.ntmps14
  go_wp2_with (rw [← e1]; clear e1)
  clear c0 c1
  refine HH.out.mono ?_
  rintro e w2 ⟨rfl, b2⟩
  rw [HV.out]
  have z2 := b2.size
  have hq := HQ.out.below b2 (by omega)
  obtain ⟨⟨c0, c1⟩, -⟩ := hq.two
  have HX2 := Lib.hid ((HX.out.below b2).more b2.size)
  have HQ2 := Lib.hid hq
  have HR2 := Lib.hid (HR.out.below b2 (by omega))
  have hwz : w.heap.size < w2.heap.size := by omega
  clear hq HX HQ HR
  go_wp2
  clear c0 c1
  go_loopw [4, 15] (fun v i wr => ∃ k : Nat, k ≤ n ∧ i = .int .i64 k ∧ Ow wr w2.heap.size 2 v ((extL M (xs.take k)).map (Value.int .i64)) ∧ Below w2.heap.size w2 wr) (fun _ i _ => n - (intOf i).toNat)
  case atStart => exact ⟨0, Nat.zero_le _, rfl, own_empty _ _ _ (Nat.le_refl _), (Below.refl _ _).alloc (Nat.le_refl _) _⟩
  case round =>
    obtain ⟨k, hk, rfl, ho, hb⟩ := hrel
    have hz := hb.size
    obtain ⟨⟨c0, c1⟩, -⟩ := (HQ2.out.below hb (by omega)).two
    by_cases hlt : k < n
    · have hkx : k < xs.length := by rw [HL.out]; exact hlt
      obtain ⟨b, off, hA, -, hc⟩ := sl_cell (HX2.out.below hb) hkx
      subst hA
      have hst : extL M (xs.take (k + 1)) = extL M (xs.take k) ++ [extV M (xs.getD k 0)] := by
        rw [take_snoc hkx]
        unfold extL
        rw [List.map_append, show xs.getD k 0 = xs[k] by simp [List.getD, hkx]]
        rfl
      have hbx := HRM.out k
      have hxv : ∀ x : Int, extV M x = if wt x % 2 == 1 then bits .or .i64 x (2 ^ M) else x := fun _ => rfl
      obtain ⟨x, hxx⟩ : ∃ x, xs.getD k 0 = x := ⟨_, rfl⟩
      rw [hxx] at hc hst hbx
      have hp16 := pow16 (Nat.le_of_lt hM)
      have hx0 := hbx.1
      have hx1 : x < 65536 := by omega
      have hsh := (wrap16 (Nat.le_of_lt hM)).2.1
      have hlen : ((extL M (xs.take k)).map (Value.int .i64)).length + 1 ≤ 1099511627776 := by rw [List.length_map, extL_len, List.length_take]; omega
      have hxe := hxv x
      cases hw : wt x % 2 == 1
      · rw [hw] at hxe
        simp only [Bool.false_eq_true, if_false] at hxe
        rw [hxe] at hst
        have HT := Lib.hid hst
        have HWW := Lib.hid hw
        clear hst hw hxe hxv hxx hkx hbx
        go_wp2_with (first
          | (go_at_call 41; refine (impl_isOdd_w _ x hx0 hx1).mono ?_; rintro e w' ⟨rfl, rfl⟩; rw [HWW.out])
          | (at_builtin; refine app1 Try.underlying25 infoInt64 rfl (by decide) rfl _ _ rfl _ _ _ rfl (ho.alloc _) _ _ _ rfl (cell_new1 _ _ _) rfl hlen (by simp; omega) ?_; intro v' w4 ho4 hb4))
        go_roundw
        case rel =>
          refine ⟨k + 1, by omega, by go_num, ?_, (hb.alloc hz _).trans hb4⟩
          rw [HT.out, List.map_append]
          exact ho4
        case measure => simp [intOf]; omega
      · rw [hw] at hxe
        simp only [if_true] at hxe
        rw [hxe] at hst
        have HT := Lib.hid hst
        have HWW := Lib.hid hw
        clear hst hw hxe hxv hxx hkx hbx
        go_wp2_with (first
          | (go_at_call 41; refine (impl_isOdd_w _ x hx0 hx1).mono ?_; rintro e w' ⟨rfl, rfl⟩; rw [HWW.out])
          | (at_builtin; refine app1 Try.underlying25 infoInt64 rfl (by decide) rfl _ _ rfl _ _ _ rfl (ho.alloc _) _ _ _ rfl (cell_new1 _ _ _) rfl hlen (by simp; omega) ?_; intro v' w4 ho4 hb4))
        go_roundw
        case rel =>
          refine ⟨k + 1, by omega, by go_num, ?_, (hb.alloc hz _).trans hb4⟩
          rw [HT.out, List.map_append]
          exact ho4
        case measure => simp [intOf]; omega
    · obtain hkn : k = n := by omega
      have ht : xs.take k = xs := List.take_of_length_le (by rw [HL.out]; omega)
      rw [ht] at ho
      obtain ⟨S, k4, rfl, hp⟩ := ho.opn
      rw [extL_len, HL.out] at hp ⊢
      have HA := Lib.hid (impl_asParity_c wr ((M + 1 : Nat) : Int) S n k4 (extL M xs) (by rw [extL_len]; exact HL.out) (by omega) (sl_of_own hp))
      rw [HVE.out] at HA
      simp only [asP] at HA
      push_cast at HA
      have HP := Lib.hid hp
      clear ho hp ht hkn
      go_wp2_with fail
      refine HA.out.mono ?_
      rintro e w4 ⟨rfl, b4⟩
      have hp4 := own_below HP.out b4 (Nat.le_refl _)
      obtain ⟨⟨d0, d1⟩, g0, g1⟩ := ((HR2.out.below hb (by omega)).below b4 (by omega)).two
      have B4 := b2.trans ((hb.trans (b4.mono hz)).mono z2)
      clear c0 c1 b4
      go_wp2
      refine bodyPost_ret (v := .tuple #[.agg #[.int .i64 ((M : Int) + 1), .slice S n k4], .bool true]) (by unfold results; rw [Try.results14]; go_simp) rfl ?_
      refine ⟨_, rfl, ?_, ?_⟩
      · unfold Ow
        rw [List.length_map, extL_len, HL.out]
        refine own_base (base := w2.heap.size) ?_ (by omega)
        iterate 2 (refine ownsRow_setCell_below ?_ (by simp; omega) _)
        exact hp4
      · iterate 2 (refine below_put ?_ (by omega) _ _)
        exact b1.trans (B4.mono b1.size)

end Go.Proofs.Ytldnhflgpbcmeaa
