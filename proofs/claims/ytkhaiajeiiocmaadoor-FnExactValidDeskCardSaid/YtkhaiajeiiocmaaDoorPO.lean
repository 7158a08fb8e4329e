/-
  Contract: valid parities, of the reference, at a pointer to a field.
  Conditions: lengths at most 1048576.
-/
import Derived.Test.YtkhaiajeiiocmaaDoorPV
namespace Go.Proofs.YtkhaiajeiiocmaaDoor
open Go.RowKit


set_option maxRecDepth 100000 in
set_option maxHeartbeats 4000000 in
theorem spec_l06Is_o (w : World) (b o B : Nat) (m : Int) (A : Option Addr) (n cap : Nat) (xs : List Int) (h0 : w.cell? ⟨b, o, none⟩ = some (.int .i64 m)) (h1 : w.cell? ⟨b, o + 1, none⟩ = some (.slice A n cap)) (hbz : b < w.heap.size) (hBz : B ≤ w.heap.size) (hl : xs.length = n) (hn : n ≤ 1048576) (hx : Sl w B A (xs.map (Value.int .i64))) :
    Calls Tryd.prog 26 #[.pointer (some ⟨b, o, none⟩)] w fun e w' => e = .returned (.bool (validParB m xs)) ∧ Below w.heap.size w w' := by
  cases hm : inB m 1 16
  · rw [par_no (par_m hm)]
    have HM := Lib.hid hm
    clear hm
    go_enter Tryd.func26, Tryd.ntmps26
    go_wp2_with (go_at_call 38; refine (spec_l00In_c _ _ _ _).mono ?_; rintro e w' ⟨rfl, rfl⟩; rw [HM.out])
    go_ret
    exact ⟨rfl, Below.refl _ _⟩
  have hm2 := inB_true.1 hm
  rcases Nat.lt_or_ge n 1 with g1 | g1
  · rw [par_no (par_1 (by omega))]
    have HM := Lib.hid hm
    clear hm
    go_enter Tryd.func26, Tryd.ntmps26
    go_wp2_with (go_at_call 38; refine (spec_l00In_c _ _ _ _).mono ?_; rintro e w' ⟨rfl, rfl⟩; rw [HM.out])
    go_ret
    exact ⟨rfl, Below.refl _ _⟩
  rcases Nat.lt_or_ge 8 n with g8 | g8
  · rw [par_no (par_8 (by omega))]
    have HM := Lib.hid hm
    clear hm
    go_enter Tryd.func26, Tryd.ntmps26
    go_wp2_with (go_at_call 38; refine (spec_l00In_c _ _ _ _).mono ?_; rintro e w' ⟨rfl, rfl⟩; rw [HM.out])
    go_ret
    exact ⟨rfl, Below.refl _ _⟩
  obtain ⟨M, rfl⟩ : ∃ M : Nat, m = M := ⟨m.toNat, by omega⟩
  have hM : M ≤ 16 := by omega
  have hall := par_all (rows := xs) hm (by omega) (by omega)
  have HM := Lib.hid hm
  obtain ⟨ib, hib⟩ : ∃ ib : Int → Bool, ∀ x, inB x 0 (2 ^ M - 1) = ib x := ⟨_, fun _ => rfl⟩
  have e1 : (xs.all fun x => inB x 0 (2 ^ M - 1)) = xs.all ib := by simp only [hib]
  rw [e1] at hall
  have HI := Lib.hid hib
  have HALL := Lib.hid hall
  clear hm hm2 hib e1 hall
  go_enter Tryd.func26, Tryd.ntmps26
  go_wp2_with (go_at_call 38; refine (spec_l00In_c _ _ _ _).mono ?_; rintro e w' ⟨rfl, rfl⟩; rw [HM.out])
  go_loopw [3] (fun i wr => ∃ k q : Nat, k ≤ n ∧ i = .int .i64 k ∧ (xs.take k).all ib = true ∧ wr = w.drewN q) (fun i _ => n - (intOf i).toNat)
  case atStart => exact ⟨0, 0, Nat.zero_le _, rfl, rfl, rfl⟩
  case round =>
    obtain ⟨k, q, hk, rfl, hp, rfl⟩ := hrel
    have HP := Lib.hid hp
    clear hp
    by_cases hlt : k < n
    · obtain ⟨b2, off, rfl, hbb, hc1⟩ := hx.get k (by omega)
      have htk : (xs.take (k + 1)).all ib = ((xs.take k).all ib && ib (xs[k]'(by omega))) := by
        rw [List.take_succ_eq_append_getElem (by omega), List.all_append]; simp
      have hal : ib (xs[k]'(by omega)) = false → xs.all ib = false := fun h => by
        rw [← Bool.not_eq_true, List.all_eq_true]
        intro hh
        rw [hh _ (List.getElem_mem _)] at h
        cases h
      clear hx
      obtain ⟨x, hxx⟩ : ∃ x, xs[k]'(by omega) = x := ⟨_, rfl⟩
      rw [hxx] at hc1 htk hal
      have HT := Lib.hid htk
      have HA := Lib.hid hal
      clear htk hxx hal
      cases hbx : ib x
      · have HX := Lib.hid ((HI.out x).trans hbx)
        have HF := Lib.hid hbx
        clear hbx
        go_wp2_with fail
        go_quiet ((go_at_call 40; exact l06Word_at HX.out hM))
        go_wp2
        go_ret
        exact ⟨ret_bool (by rw [par_no (HALL.out.trans (HA.out HF.out))]), below_drewN (below_of_drewN _ _ _) _⟩
      · have HX := Lib.hid ((HI.out x).trans hbx)
        have HF := Lib.hid hbx
        clear hbx
        go_wp2_with fail
        go_quiet ((go_at_call 40; exact l06Word_at HX.out hM))
        go_wp2
        go_roundw
        case rel =>
          refine ⟨k + 1, _, by omega, by go_num, ?_, rfl⟩
          rw [HT.out, HP.out, HF.out]
          rfl
        case measure => simp [intOf]; omega
    · have : k = n := by omega
      subst this
      have hyes := par_yes (m := M) (rows := xs) (by
        have h := HP.out
        rw [List.take_of_length_le (by omega)] at h
        rw [HALL.out]; exact h)
      have HY := Lib.hid hyes
      clear hyes
      obtain ⟨wo, ewo⟩ : ∃ wo : World, wo = w.drewN q := ⟨_, rfl⟩
      rw [← ewo]
      have hBo : Below w.heap.size w wo := by rw [ewo]; exact below_of_drewN _ _ _
      have c0 : wo.cell? ⟨b, o, none⟩ = some (.int .i64 (M : Int)) := by rw [ewo]; exact h0
      have c1 : wo.cell? ⟨b, o + 1, none⟩ = some (.slice A k cap) := by rw [ewo]; exact h1
      have hzo := hBo.size
      have hxo := (hx.below (hBo.mono hBz)).more (Nat.le_trans hBz hzo)
      have hst := fun W : World => fun hW : Sl W W.heap.size A (xs.map (Value.int .i64)) => spec_l06Steps_c W M hM A k cap xs hl g1 g8 hW
      have HS := Lib.hid hst
      clear h0 h1 ewo hx hst
      go_wp2_with fail
      go_region_held3 (fun w' => w'.cell? ⟨b, o, none⟩ = some (.int .i64 (M : Int)) ∧ w'.cell? ⟨b, o + 1, none⟩ = some (.slice A k cap))
        (first | exact ⟨d2, d3⟩ | exact ⟨c0, c1⟩)
        (first
          | (go_at_call 41; refine (HS.out wo.drew (hxo.drewN 1)).mono ?_; rintro e w3 ⟨v3, rfl, _, hb3⟩; have hb3 := below_undrew hb3; have d2 := (hb3.cell (p := ⟨b, o, none⟩) (by simp only []; omega)).trans c0; have d3 := (hb3.cell (p := ⟨b, o + 1, none⟩) (by simp only []; omega)).trans c1))
      go_wp2
      go_ret
      exact ⟨ret_bool (by rw [HY.out, hl]; first | exact cast_beq2 _ _ | rfl), hBo.trans (hb3.mono hzo)⟩

end Go.Proofs.YtkhaiajeiiocmaaDoor
