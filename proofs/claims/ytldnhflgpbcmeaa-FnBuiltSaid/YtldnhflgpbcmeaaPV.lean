/-
  Contracts: codes of rows are valid.
  Conditions: lengths at most 1048576.
-/
import Derived.Test.YtldnhflgpbcmeaaPK
import Derived.Test.YtldnhflgpbcmeaaSV
namespace Go.Proofs.Ytldnhflgpbcmeaa
open Go.RowKit

theorem pow16 {M : Nat} (h : M ≤ 16) : (1 : Int) ≤ 2 ^ M ∧ (2 : Int) ^ M ≤ 65536 := by
  have h1 : (2 : Nat) ^ M ≤ 2 ^ 16 := Nat.pow_le_pow_right (by decide) h
  have h2 : 0 < (2 : Nat) ^ M := Nat.pow_pos (by decide)
  have e : (2 : Int) ^ M = ((2 ^ M : Nat) : Int) := by simp
  omega
theorem wrap16 {M : Nat} (h : M ≤ 16) : IntKind.i64.wrap (2 ^ M) = 2 ^ M ∧ wrap64 (2 ^ M) = 2 ^ M ∧ IntKind.i64.wrap (IntKind.i64.wrap (2 ^ M) - 1) = 2 ^ M - 1 ∧ wrap64 (wrap64 (2 ^ M) - 1) = 2 ^ M - 1 := by
  have hp := pow16 h
  have h1 : IntKind.i64.wrap (2 ^ M) = 2 ^ M := IntWalk.i64_in _ (by omega)
  have h2 : wrap64 (2 ^ M) = 2 ^ M := IntWalk.wrap64_in _ (by omega)
  rw [h1, h2]
  exact ⟨rfl, rfl, IntWalk.i64_in _ (by omega), IntWalk.wrap64_in _ (by omega)⟩

theorem par_no {m : Int} {rows : List Int} (h : parRows m rows = false) : validParB m rows = false := by unfold validParB; rw [h]; rfl
theorem par_yes {m : Int} {rows : List Int} (h : parRows m rows = true) : validParB m rows = ((stepsOf m rows).2 == rows.length) := by unfold validParB; rw [h]; rfl
theorem par_m {m : Int} {rows : List Int} (h : inB m 1 16 = false) : parRows m rows = false := by unfold parRows; rw [h]; rfl
theorem par_1 {m : Int} {rows : List Int} (h : ¬ 1 ≤ rows.length) : parRows m rows = false := by unfold parRows; simp [h]
theorem par_8 {m : Int} {rows : List Int} (h : ¬ rows.length ≤ 8) : parRows m rows = false := by unfold parRows; simp [h]
theorem par_all {M : Nat} {rows : List Int} (h : inB (M : Int) 1 16 = true) (h1 : 1 ≤ rows.length) (h8 : rows.length ≤ 8) : parRows M rows = rows.all fun x => inB x 0 (2 ^ M - 1) := by
  unfold parRows
  rw [h, decide_eq_true h1, decide_eq_true h8]
  rfl
theorem cast_beq2 (a b : Nat) : ((a : Int) == (b : Int)) = (a == b) := by
  rw [Bool.eq_iff_iff]
  simp
  omega


theorem spec_l06Word_c (w : World) (x : Int) (M : Nat) (hM : M ≤ 16) : Calls Try.prog 66 #[.int .i64 x, .int .i64 (M : Int)] w fun e w' => e = .returned (.bool (inB x 0 (2 ^ M - 1))) ∧ w = w' := by
  have h1 := (wrap16 hM).2.2.2
  have hcv : IntKind.u64.wrap (M : Int) = M := IntWalk.u64_in _ (by omega)
  have H1 := Lib.hid h1
  clear h1
  go_enter Try.func66, Try.ntmps66
  go_wp2_with fail
  rw [H1.out]
  refine (spec_l00In_c _ _ _ _).mono ?_
  rintro e w' ⟨rfl, rfl⟩
  go_wp2
  go_ret
  exact ⟨rfl, rfl⟩
theorem l06Word_at {w : World} {x : Int} {M n m : Nat} {bb : Bool} (hb : inB x 0 (2 ^ M - 1) = bb) (hM : M ≤ 16) : Calls Try.prog 66 #[.int .i64 x, .int .i64 (M : Int)] (w.drewN (n + m)) fun e w' => e = .returned (.bool bb) ∧ ∃ k, w' = w.drewN (n + k) := by
  refine (spec_l06Word_c _ x M hM).mono ?_
  rintro e w' ⟨rfl, rfl⟩
  exact ⟨by rw [hb], _, rfl⟩


theorem areWithin_q {w : World} {B n cap q : Nat} {A : Option Addr} {xs : List Int} {hi Q : Int} {bb : Bool} (hl : xs.length = n) (hn : n ≤ 1048576) (hx : Sl w B A (xs.map (Value.int .i64))) (hq : hi = Q) (hb : (xs.all fun x => inB x 0 Q) = bb) :
    Calls Try.prog 46 #[.slice A n cap, .int .i64 0, .int .i64 hi] (w.drewN q) fun e w' => e = .returned (.bool bb) ∧ ∃ k, w' = w.drewN k := by
  subst hq
  rw [← hb]
  exact areWithin_is hl hn hx

set_option maxRecDepth 100000 in
set_option maxHeartbeats 4000000 in
theorem impl_ValidParity_c (w : World) (m : Int) (A : Option Addr) (n cap : Nat) (xs : List Int) (hl : xs.length = n) (hn : n ≤ 1048576) (hx : Sl w w.heap.size A (xs.map (Value.int .i64))) :
    Calls Try.prog 22 #[.agg #[.int .i64 m, .slice A n cap]] w fun e w' => e = .returned (.bool (validParB m xs)) ∧ Below w.heap.size w w' := by
  have hx' := hx.alloc (Nat.le_refl _) (.cells #[.int .i64 m, .slice A n cap] 27)
  have hB : Below w.heap.size w (w.alloc (.cells #[.int .i64 m, .slice A n cap] 27)) := (Below.refl _ _).alloc (Nat.le_refl _) _
  cases hm : inB m 1 16
  · rw [par_no (par_m hm)]
    have HM := Lib.hid hm
    clear hm
    go_enter Try.func22, Try.ntmps22
    go_wp2_with fail
    go_quiet ((go_at_call 30; exact within_is HM.out))
    go_wp2
    go_ret
    exact ⟨rfl, below_drewN hB _⟩
  · have hm2 := inB_true.1 hm
    by_cases h1 : 1 ≤ n
    · have d1 : decide ((n : Int) < 1) = false := by simp; omega
      have d1b : decide (n < 1) = false := by simp; omega
      by_cases h8 : n ≤ 8
      · have d2 : decide (8 < (n : Int)) = false := by simp; omega
        have d2b : decide (8 < n) = false := by simp; omega
        obtain ⟨M, rfl⟩ : ∃ M : Nat, m = M := ⟨m.toNat, by omega⟩
        have hM : M ≤ 16 := by omega
        have hall := par_all (rows := xs) hm (by omega) (by omega)
        have hw := wrap16 hM
        have HW := Lib.hid hw
        have HM := Lib.hid hm
        clear hw hm hm2
        cases ha : parRows (M : Int) xs
        · rw [par_no ha]
          rw [ha] at hall
          have HA := Lib.hid hall.symm
          clear ha hall
          go_enter Try.func22, Try.ntmps22
          go_wp2_with fail
          go_quiet ((first | (go_at_call 30; exact within_is HM.out) | (go_at_call 46; exact areWithin_q hl hn hx' HW.out.2.2.1 HA.out)))
          go_wp2
          go_ret
          exact ⟨rfl, below_drewN hB _⟩
        · rw [par_yes ha]
          rw [ha] at hall
          have HA := Lib.hid hall.symm
          clear ha hall
          go_enter Try.func22, Try.ntmps22
          go_wp2_with fail
          go_quiet ((first | (go_at_call 30; exact within_is HM.out) | (go_at_call 46; exact areWithin_q hl hn hx' HW.out.2.2.1 HA.out)))
          obtain ⟨w2, e2⟩ : ∃ w2 : World, w2 = (w.alloc (.cells #[.int .i64 (M : Int), .slice A n cap] 27)).drewN nq := ⟨_, rfl⟩
          rw [← e2]
          have hB2 : Below w.heap.size w w2 := by rw [e2]; exact below_drewN hB nq
          have c0 : w2.cell? ⟨w.heap.size, 0, none⟩ = some (.int .i64 (M : Int)) := by rw [e2]; (first | (simp; done) | (simp (disch := (first | (simp; done) | (simp; omega))) [World.cell?_alloc_at]; done) | (simp (disch := (first | (simp; done) | (simp; omega))) [World.cell?_alloc_past]; done) | (simp (disch := (first | (simp; done) | (simp; omega))) [World.cell?_alloc_at, World.cell?_alloc_past]; done) | (simp (disch := (first | (simp; done) | (simp; omega))) [World.frozen?_alloc_at]; done) | (simp (disch := (first | (simp; done) | (simp; omega))) [World.frozen?_alloc_past]; done) | (simp (disch := (first | (simp; done) | (simp; omega))) [World.frozen?_alloc_at, World.frozen?_alloc_past]; done))
          have c1 : w2.cell? ⟨w.heap.size, 1, none⟩ = some (.slice A n cap) := by rw [e2]; (first | (simp; done) | (simp (disch := (first | (simp; done) | (simp; omega))) [World.cell?_alloc_at]; done) | (simp (disch := (first | (simp; done) | (simp; omega))) [World.cell?_alloc_past]; done) | (simp (disch := (first | (simp; done) | (simp; omega))) [World.cell?_alloc_at, World.cell?_alloc_past]; done) | (simp (disch := (first | (simp; done) | (simp; omega))) [World.frozen?_alloc_at]; done) | (simp (disch := (first | (simp; done) | (simp; omega))) [World.frozen?_alloc_past]; done) | (simp (disch := (first | (simp; done) | (simp; omega))) [World.frozen?_alloc_at, World.frozen?_alloc_past]; done))
          have z2 : w.heap.size < w2.heap.size := by rw [e2]; simp
          have hx2 := (hx.below hB2).more hB2.size
          clear e2 hx' hx hB
          go_wp2_with fail
          refine (impl_echelon_c w2 M hM A n cap xs hl h1 h8 hx2).mono ?_
          rintro e w3 ⟨v, rfl, _, hb3⟩
          have d0 := (hb3.cell (p := ⟨w.heap.size, 0, none⟩) z2).trans c0
          have d1 := (hb3.cell (p := ⟨w.heap.size, 1, none⟩) z2).trans c1
          clear c0 c1
          go_wp2
          go_ret
          exact ⟨ret_bool (by rw [hl]; first | exact cast_beq2 _ _ | rfl), hB2.trans (hb3.mono hB2.size)⟩
      · rw [par_no (par_8 (by omega))]
        have HM := Lib.hid hm
        have d2 : decide (8 < (n : Int)) = true := by simp; omega
        have d2b : decide (8 < n) = true := by simp; omega
        clear hm
        go_enter Try.func22, Try.ntmps22
        go_wp2_with fail
        go_quiet ((go_at_call 30; exact within_is HM.out))
        go_wp2
        go_ret
        exact ⟨rfl, below_drewN hB _⟩
    · rw [par_no (par_1 (by omega))]
      have HM := Lib.hid hm
      have d1 : decide ((n : Int) < 1) = true := by simp; omega
      have d1b : decide (n < 1) = true := by simp; omega
      clear hm
      go_enter Try.func22, Try.ntmps22
      go_wp2_with fail
      go_quiet ((go_at_call 30; exact within_is HM.out))
      go_wp2
      go_ret
      exact ⟨rfl, below_drewN hB _⟩


set_option maxRecDepth 100000 in
set_option maxHeartbeats 4000000 in
theorem spec_l06Is_c (w : World) (b B : Nat) (m : Int) (A : Option Addr) (n cap : Nat) (xs : List Int) (h0 : w.cell? ⟨b, 0, none⟩ = some (.int .i64 m)) (h1 : w.cell? ⟨b, 1, none⟩ = some (.slice A n cap)) (hbz : b < w.heap.size) (hBz : B ≤ w.heap.size) (hl : xs.length = n) (hn : n ≤ 1048576) (hx : Sl w B A (xs.map (Value.int .i64))) :
    Calls Try.prog 60 #[.pointer (some ⟨b, 0, none⟩)] w fun e w' => e = .returned (.bool (validParB m xs)) ∧ Below w.heap.size w w' := by
  cases hm : inB m 1 16
  · rw [par_no (par_m hm)]
    have HM := Lib.hid hm
    clear hm
    go_enter Try.func60, Try.ntmps60
    go_wp2_with (go_at_call 65; refine (spec_l00In_c _ _ _ _).mono ?_; rintro e w' ⟨rfl, rfl⟩; rw [HM.out])
    go_ret
    exact ⟨rfl, Below.refl _ _⟩
  have hm2 := inB_true.1 hm
  rcases Nat.lt_or_ge n 1 with g1 | g1
  · rw [par_no (par_1 (by omega))]
    have HM := Lib.hid hm
    clear hm
    go_enter Try.func60, Try.ntmps60
    go_wp2_with (go_at_call 65; refine (spec_l00In_c _ _ _ _).mono ?_; rintro e w' ⟨rfl, rfl⟩; rw [HM.out])
    go_ret
    exact ⟨rfl, Below.refl _ _⟩
  rcases Nat.lt_or_ge 8 n with g8 | g8
  · rw [par_no (par_8 (by omega))]
    have HM := Lib.hid hm
    clear hm
    go_enter Try.func60, Try.ntmps60
    go_wp2_with (go_at_call 65; refine (spec_l00In_c _ _ _ _).mono ?_; rintro e w' ⟨rfl, rfl⟩; rw [HM.out])
    go_ret
    exact ⟨rfl, Below.refl _ _⟩
  obtain ⟨M, rfl⟩ : ∃ M : Nat, m = M := ⟨m.toNat, by omega⟩
  have hM : M ≤ 16 := by omega
  have hall := par_all (rows := xs) hm (by omega) (by omega)
  have HM := Lib.hid hm
  obtain ⟨ib, hib⟩ : ∃ ib : Int → Bool, ∀ x, inB x 0 (2 ^ M - 1) = ib x := ⟨_, fun _ => rfl⟩
  have e1 : (xs.all fun x => inB x 0 (2 ^ M - 1)) = xs.all ib := by simp only [hib]
  rw [e1] at hall
  have HI := Lib.hid hib
  have HALL := Lib.hid hall
  clear hm hm2 hib e1 hall
  go_enter Try.func60, Try.ntmps60
  go_wp2_with (go_at_call 65; refine (spec_l00In_c _ _ _ _).mono ?_; rintro e w' ⟨rfl, rfl⟩; rw [HM.out])
  go_loopw [3] (fun i wr => ∃ k q : Nat, k ≤ n ∧ i = .int .i64 k ∧ (xs.take k).all ib = true ∧ wr = w.drewN q) (fun i _ => n - (intOf i).toNat)
  case atStart => exact ⟨0, 0, Nat.zero_le _, rfl, rfl, rfl⟩
  case round =>
    obtain ⟨k, q, hk, rfl, hp, rfl⟩ := hrel
    have HP := Lib.hid hp
    clear hp
    by_cases hlt : k < n
    · obtain ⟨b2, off, rfl, hbb, hc1⟩ := hx.get k (by omega)
      have htk : (xs.take (k + 1)).all ib = ((xs.take k).all ib && ib (xs[k]'(by omega))) := by
        rw [List.take_succ_eq_append_getElem (by omega), List.all_append]; simp
      have hal : ib (xs[k]'(by omega)) = false → xs.all ib = false := fun h => by
        rw [← Bool.not_eq_true, List.all_eq_true]
        intro hh
        rw [hh _ (List.getElem_mem _)] at h
        cases h
      clear hx
      obtain ⟨x, hxx⟩ : ∃ x, xs[k]'(by omega) = x := ⟨_, rfl⟩
      rw [hxx] at hc1 htk hal
      have HT := Lib.hid htk
      have HA := Lib.hid hal
      clear htk hxx hal
      cases hbx : ib x
      · have HX := Lib.hid ((HI.out x).trans hbx)
        have HF := Lib.hid hbx
        clear hbx
        go_wp2_with fail
        go_quiet ((go_at_call 66; exact l06Word_at HX.out hM))
        go_wp2
        go_ret
        exact ⟨ret_bool (by rw [par_no (HALL.out.trans (HA.out HF.out))]), below_drewN (below_of_drewN _ _ _) _⟩
      · have HX := Lib.hid ((HI.out x).trans hbx)
        have HF := Lib.hid hbx
        clear hbx
        go_wp2_with fail
        go_quiet ((go_at_call 66; exact l06Word_at HX.out hM))
        go_wp2
        go_roundw
        case rel =>
          refine ⟨k + 1, _, by omega, by go_num, ?_, rfl⟩
          rw [HT.out, HP.out, HF.out]
          rfl
        case measure => simp [intOf]; omega
    · have : k = n := by omega
      subst this
      have hyes := par_yes (m := M) (rows := xs) (by
        have h := HP.out
        rw [List.take_of_length_le (by omega)] at h
        rw [HALL.out]; exact h)
      have HY := Lib.hid hyes
      clear hyes
      obtain ⟨wo, ewo⟩ : ∃ wo : World, wo = w.drewN q := ⟨_, rfl⟩
      rw [← ewo]
      have hBo : Below w.heap.size w wo := by rw [ewo]; exact below_of_drewN _ _ _
      have c0 : wo.cell? ⟨b, 0, none⟩ = some (.int .i64 (M : Int)) := by rw [ewo]; exact h0
      have c1 : wo.cell? ⟨b, 1, none⟩ = some (.slice A k cap) := by rw [ewo]; exact h1
      have hzo := hBo.size
      have hxo := (hx.below (hBo.mono hBz)).more (Nat.le_trans hBz hzo)
      have hst := fun W : World => fun hW : Sl W W.heap.size A (xs.map (Value.int .i64)) => spec_l06Steps_c W M hM A k cap xs hl g1 g8 hW
      have HS := Lib.hid hst
      clear h0 h1 ewo hx hst
      go_wp2_with fail
      go_region_held3 (fun w' => w'.cell? ⟨b, 0, none⟩ = some (.int .i64 (M : Int)) ∧ w'.cell? ⟨b, 1, none⟩ = some (.slice A k cap))
        (first | exact ⟨d2, d3⟩ | exact ⟨c0, c1⟩)
        (first
          | (go_at_call 67; refine (HS.out wo.drew (hxo.drewN 1)).mono ?_; rintro e w3 ⟨v3, rfl, _, hb3⟩; have hb3 := below_undrew hb3; have d2 := (hb3.cell (p := ⟨b, 0, none⟩) (by simp only []; omega)).trans c0; have d3 := (hb3.cell (p := ⟨b, 1, none⟩) (by simp only []; omega)).trans c1))
      go_wp2
      go_ret
      exact ⟨ret_bool (by rw [HY.out, hl]; first | exact cast_beq2 _ _ | rfl), hBo.trans (hb3.mono hzo)⟩

end Go.Proofs.Ytldnhflgpbcmeaa
