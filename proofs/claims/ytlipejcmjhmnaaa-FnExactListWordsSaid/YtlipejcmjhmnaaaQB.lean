/-
  Contracts: the distance of a code, of the program and of the reference; all words and weights of the reference.
  Conditions: lengths at most 1048576.
-/
import Derived.Test.YtlipejcmjhmnaaaQA
namespace Go.Proofs.Ytlipejcmjhmnaaa
open Go.RowKit

theorem dist_val {M : Nat} {xs : List Int} {d : Nat} (h : validParB (M : Int) xs = true) (hd : distK (wtRow M (codeL xs)) M = some d) : distV M xs = (d : Int) := by
  have e : (M : Int).toNat = M := rfl
  unfold distV
  rw [h, e, hd]
  rfl
theorem sl_cell {w : World} {B : Nat} {A : Option Addr} {l : List Int} (h : Sl w B A (l.map (Value.int .i64))) {k : Nat} (hk : k < l.length) : ∃ b off, A = some ⟨b, off, none⟩ ∧ b < B ∧ w.cell? ⟨b, off + k, none⟩ = some (.int .i64 (l.getD k 0)) := by
  obtain ⟨b, off, e, hb, hc⟩ := h.get k hk
  exact ⟨b, off, e, hb, by rw [hc]; simp [List.getD, hk]⟩


set_option maxRecDepth 100000 in
set_option maxHeartbeats 2000000 in
theorem impl_DistanceOf_c (w : World) (m : Int) (A : Option Addr) (n cap : Nat) (xs : List Int) (hl : xs.length = n) (hn : n ≤ 1048576) (hx : Sl w w.heap.size A (xs.map (Value.int .i64))) :
    Calls Try.prog 33 #[.agg #[.int .i64 m, .slice A n cap]] w fun e w' => e = .returned (.tuple #[.int .i64 (distV m xs), .bool (validParB m xs)]) ∧ Below w.heap.size w w' := by
  have hB0 : Below w.heap.size w (w.alloc (.cells #[.int .i64 m, .slice A n cap] 28)) := (Below.refl _ _).alloc (Nat.le_refl _) _
  cases hv : validParB m xs
  · have e1 : distV m xs = 0 := by unfold distV; rw [hv]; rfl
    rw [e1]
    have HV := Lib.hid hv
    clear hv e1
    go_enter Try.func33, Try.ntmps33
    go_wp2_with fail
    refine (impl_WeightsOf_c _ m A n cap xs hl hn ((hx.below hB0).more hB0.size)).mono ?_
    rintro e w2 ⟨v, rfl, _, hb2⟩
    rw [HV.out]
    go_wp2
    go_ret2
    exact ⟨rfl, hB0.trans (hb2.mono hB0.size)⟩
  · have hpr : parRows m xs = true := by
      unfold validParB at hv
      rw [Bool.and_eq_true] at hv
      exact hv.1
    obtain ⟨m1, m2, g1, g8, hxs⟩ := par_facts hpr
    obtain ⟨M, rfl⟩ : ∃ M : Nat, m = M := ⟨m.toNat, by omega⟩
    have hM : M ≤ 16 := by omega
    obtain ⟨d, hd⟩ := dist_some hv
    have hdv := dist_val hv hd
    obtain ⟨hd1, hd2, hd3, hd4⟩ := distK_mem hd
    have e1 : weightsV (M : Int) xs = wtRow M (codeL xs) := by unfold weightsV; rw [hv]; rfl
    rw [hdv]
    obtain ⟨R, hR⟩ : ∃ R, wtRow M (codeL xs) = R := ⟨_, rfl⟩
    have hRl : R.length = M + 1 := by rw [← hR, wtRow_len]
    rw [hR] at e1 hd3 hd4
    have HE := Lib.hid e1
    have HV := Lib.hid hv
    have HD4 := Lib.hid hd4
    have HX := Lib.hid hx
    have HRL := Lib.hid hRl
    clear hv e1 hpr hxs hx hd hdv hR hd4 hRl
    go_enter Try.func33, Try.ntmps33
    go_wp2_with fail
    obtain ⟨w1, ew⟩ : ∃ q : World, q = w.alloc (.cells #[.int .i64 (M : Int), .slice A n cap] 28) := ⟨_, rfl⟩
    rw [← ew] at hB0
    have c0 : w1.cell? ⟨w.heap.size, 0, none⟩ = some (.int .i64 (M : Int)) := by rw [ew]; (first | (simp; done) | (simp (disch := (first | (simp; done) | (simp; omega))) [World.cell?_alloc_at]; done) | (simp (disch := (first | (simp; done) | (simp; omega))) [World.cell?_alloc_past]; done) | (simp (disch := (first | (simp; done) | (simp; omega))) [World.cell?_alloc_at, World.cell?_alloc_past]; done) | (simp (disch := (first | (simp; done) | (simp; omega))) [World.frozen?_alloc_at]; done) | (simp (disch := (first | (simp; done) | (simp; omega))) [World.frozen?_alloc_past]; done) | (simp (disch := (first | (simp; done) | (simp; omega))) [World.frozen?_alloc_at, World.frozen?_alloc_past]; done))
    have z1 : w.heap.size < w1.heap.size := by rw [ew]; simp
    rw [← ew]
    clear ew
    refine (impl_WeightsOf_c w1 M A n cap xs hl hn ((HX.out.below hB0).more hB0.size)).mono ?_
    rintro e w2 ⟨v, rfl, ho2, hb2⟩
    rw [HV.out]
    rw [HE.out] at ho2
    have d0 := (hb2.cell (p := ⟨w.heap.size, 0, none⟩) z1).trans c0
    have hB2 : Below w.heap.size w w2 := hB0.trans (hb2.mono hB0.size)
    obtain ⟨S, k2, rfl, hp2⟩ := ho2.opn
    clear c0 hb2 hB0 ho2
    go_wp2
    go_loop [6] (fun i => ∃ k : Nat, 1 ≤ k ∧ k ≤ d ∧ i = .int .i64 (k : Int)) (fun i => d - (intOf i).toNat)
    case atStart => exact ⟨1, Nat.le_refl _, hd1, rfl⟩
    case round =>
      obtain ⟨k, hk1, hk, rfl⟩ := hrel
      obtain ⟨b, off, rfl, hbb, hc1⟩ := sl_cell (sl_of_own hp2) (k := k) (by have := HRL.out; omega)
      have hkM : k ≤ M := by omega
      have hkr : k < R.length := by have := HRL.out; omega
      by_cases hlt : k < d
      · have h4 := HD4.out k hk1 hlt
        obtain ⟨y, hy⟩ : ∃ y, R.getD k 0 = y := ⟨_, rfl⟩
        rw [hy] at h4 hc1
        clear hd3 hy
        go_wp2
        go_round
        case rel => exact ⟨k + 1, by omega, by omega, by go_num⟩
        case measure => simp [intOf]; omega
      · have : k = d := by omega
        subst this
        obtain ⟨y, hy⟩ : ∃ y, R.getD k 0 = y := ⟨_, rfl⟩
        rw [hy] at hd3 hc1
        clear hy
        go_wp2
        go_ret2
        exact ⟨rfl, hB2⟩


set_option maxRecDepth 100000 in
set_option maxHeartbeats 1000000 in
theorem spec_l06All_c (w : World) (b B : Nat) (A : Option Addr) (n cap : Nat) (xs : List Int) (h1 : w.cell? ⟨b, 1, none⟩ = some (.slice A n cap)) (hbz : b < w.heap.size) (hBz : B ≤ w.heap.size) (hl : xs.length = n) (hn : n ≤ 8) (hx : Sl w B A (xs.map (Value.int .i64))) :
    Calls Try.prog 28 #[.pointer (some ⟨b, 0, none⟩)] w fun e w' => ∃ v, e = .returned v ∧ Ow w' w.heap.size 2 v ((codeL xs).map (Value.int .i64)) ∧ Below w.heap.size w w' := by
  obtain ⟨N, hN⟩ : ∃ N, 2 ^ n = N := ⟨_, rfl⟩
  have hp := pow8 hn
  rw [hN] at hp
  have hw := wrap16 (M := n) (by omega)
  have hc : (2 : Int) ^ n = (N : Int) := by rw [← hN]; simp
  have hwn := hw.2.1.trans hc
  have hcv : IntKind.u64.wrap (n : Int) = n := IntWalk.u64_in _ (by omega)
  have e1 : codeL xs = codeK xs N := by unfold codeL; rw [hl, hN]
  rw [e1]
  have HW := Lib.hid hwn
  have H1 := Lib.hid h1
  have HX := Lib.hid hx
  clear hN hw hc hwn e1 h1 hx
  go_enter Try.func28, Try.ntmps28
  go_wp2
  go_loopw [3, 4] (fun v i wr => ∃ k : Nat, k ≤ N ∧ i = .int .i64 k ∧ Ow wr w.heap.size 2 v ((codeK xs k).map (Value.int .i64)) ∧ Below w.heap.size w wr) (fun _ i _ => N - (intOf i).toNat)
  case atStart => exact ⟨0, Nat.zero_le _, rfl, own_empty _ _ _ (Nat.le_refl _), (Below.refl _ _).alloc (Nat.le_refl _) _⟩
  case round =>
    obtain ⟨k, hk, rfl, ho, hb⟩ := hrel
    have hz := hb.size
    have d1 := (hb.cell (p := ⟨b, 1, none⟩) hbz).trans H1.out
    by_cases hlt : k < N
    · have hlt2 : (k : Int) < wrap64 (2 ^ n) := by rw [HW.out]; omega
      have hst := codeK_succ xs k
      have hlen : ((codeK xs k).map (Value.int .i64)).length + 1 ≤ 1099511627776 := by rw [List.length_map, codeK_len]; omega
      have HT := Lib.hid hst
      clear hst
      go_wp2_with fail
      refine (spec_l06Encode_c wr b B A n cap xs d1 hl hn (HX.out.below (hb.mono hBz)) (k : Int)).mono ?_
      rintro e w' ⟨rfl, rfl⟩
      obtain ⟨y, hy⟩ : ∃ y, encL xs (k : Int) = y := ⟨_, rfl⟩
      rw [hy]
      have HY := Lib.hid hy
      clear hy d1 hlt2
      go_wp2_with (at_builtin; refine app1 Try.underlying22 infoInt64 rfl (by decide) rfl _ _ rfl _ _ _ rfl (ho.alloc _) _ _ _ rfl (cell_new1 _ _ _) rfl hlen (by simp; omega) ?_; intro v' w4 ho4 hb4)
      go_roundw
      case rel =>
        refine ⟨k + 1, by omega, by go_num, ?_, (hb.alloc hz _).trans hb4⟩
        rw [HT.out, HY.out, List.map_append]
        exact ho4
      case measure => simp [intOf]; omega
    · have hlt2 : ¬ (k : Int) < wrap64 (2 ^ n) := by rw [HW.out]; omega
      have : k = N := by omega
      subst this
      go_wp2
      go_ret
      exact ⟨_, rfl, ho, hb⟩


set_option maxRecDepth 100000 in
set_option maxHeartbeats 2000000 in
theorem spec_l06Weights_c (w : World) (b B M : Nat) (A : Option Addr) (n cap : Nat) (xs : List Int) (hv : validParB (M : Int) xs = true) (h0 : w.cell? ⟨b, 0, none⟩ = some (.int .i64 (M : Int))) (h1 : w.cell? ⟨b, 1, none⟩ = some (.slice A n cap)) (hbz : b < w.heap.size) (hBz : B ≤ w.heap.size) (hl : xs.length = n) (hx : Sl w B A (xs.map (Value.int .i64))) :
    Calls Try.prog 21 #[.pointer (some ⟨b, 0, none⟩)] w fun e w' => ∃ v, e = .returned v ∧ Ow w' w.heap.size 2 v ((wtRow M (codeL xs)).map (Value.int .i64)) ∧ Below w.heap.size w w' := by
  have hpr : parRows M xs = true := by
    unfold validParB at hv
    rw [Bool.and_eq_true] at hv
    exact hv.1
  obtain ⟨m1, m2, g1, g8, hxs⟩ := par_facts hpr
  have hM : M ≤ 16 := by omega
  have hxs' : ∀ x ∈ xs, 0 ≤ x ∧ x < 2 ^ M := hxs
  have hcl := codeL_len xs
  have hp8 := pow8 (n := xs.length) g8
  have hall := fun (W : World) (q1 : W.cell? ⟨b, 1, none⟩ = some (.slice A n cap)) (q2 : b < W.heap.size) (q3 : B ≤ W.heap.size) (q4 : Sl W B A (xs.map (Value.int .i64))) => spec_l06All_c W b B A n cap xs q1 q2 q3 hl (by omega) q4
  obtain ⟨C, hC⟩ : ∃ C, codeL xs = C := ⟨_, rfl⟩
  have hCl : C.length ≤ 256 := by rw [← hC]; omega
  have hCb : ∀ x ∈ C, 0 ≤ x ∧ x < 65536 ∧ 0 ≤ wt x ∧ wt x ≤ M := fun x hx => wt_bd16 hM (codeL_bd hM hxs' (by rw [hC]; exact hx))
  rw [hC] at hall ⊢
  have HA := Lib.hid hall
  have HCB := Lib.hid hCb
  have HX := Lib.hid hx
  have H1 := Lib.hid h1
  have hmk := fun W : World => mk_wide (w := W) hM
  clear hv hpr hxs hxs' hcl hp8 hC hCb hall hx h1
  go_enter Try.func21, Try.ntmps21
  go_wp2_with fail
  have o3 := own_mk w w.heap.size 2 (.int .i64 0) (M + 1) (Nat.le_refl _) (by omega)
  rw [row_zero] at o3
  obtain ⟨w3, ew⟩ : ∃ q : World, q = w.alloc (.cells (zeroRow (.int .i64 0) (M + 1)) 2) := ⟨_, rfl⟩
  rw [← ew] at o3 ⊢
  have hB3 : Below w.heap.size w w3 := by rw [ew]; exact (Below.refl _ _).alloc (Nat.le_refl _) _
  have z3 : w.heap.size < w3.heap.size := by rw [ew]; simp
  clear ew
  refine (HA.out w3 ((hB3.cell (p := ⟨b, 1, none⟩) hbz).trans H1.out) (by omega) (by omega) (HX.out.below (hB3.mono hBz))).mono ?_
  rintro e w4 ⟨v, rfl, ho4, hb4⟩
  have o4 := own_below o3 hb4 (Nat.le_refl _)
  have hB4 : Below w.heap.size w w4 := hB3.trans (hb4.mono hB3.size)
  have z4 := hb4.size
  obtain ⟨S, kc, rfl, hp4⟩ := ho4.opn
  have hin := own_in hp4
  clear o3 hB3 ho4 hb4 HA HX h0
  go_wp2
  go_loopw [5] (fun i wr => ∃ k : Nat, k ≤ C.length ∧ i = .int .i64 k ∧ wr.ownsRow w.heap.size 2 1 (.slice (some ⟨w.heap.size, 0, none⟩) (M + 1) (M + 1)) (M + 1) ((wtRow M (C.take k)).map (Value.int .i64)) ∧ w4.grownBy wr (some w.heap.size)) (fun i _ => C.length - (intOf i).toNat)
  case atStart => exact ⟨0, Nat.zero_le _, rfl, o4, World.grownBy.refl _ _⟩
  case round =>
    clear o4
    obtain ⟨k, hk, rfl, o5, hg5⟩ := hrel
    by_cases hlt : k < C.length
    · have hp5 := own_apart (u := .slice (some ⟨w.heap.size, 0, none⟩) (M + 1) (M + 1)) hp4 hg5 hin (c := w.heap.size) (d := w3.heap.size) (fun g hg => by cases hg; exact ⟨Nat.le_refl _, z3⟩) (by omega)
      obtain ⟨b2, off, rfl, hbb, hc1⟩ := (sl_of_own hp5).get k hlt
      have hx := HCB.out _ (List.getElem_mem hlt)
      have hts := take_snoc hlt
      obtain ⟨x, hxx⟩ : ∃ x, C[k]'hlt = x := ⟨_, rfl⟩
      rw [hxx] at hx hc1 hts
      obtain ⟨hx0, hx1, hw0, hw1⟩ := hx
      obtain ⟨W, hW⟩ : ∃ W : Nat, wt x = W := ⟨(wt x).toNat, by omega⟩
      have hsn := wtRow_snoc M (C.take k) x (by omega) (by omega)
      rw [← hts, hW, Int.toNat_natCast] at hsn
      have hct := wtRow_count (m := M) (ws := C.take k) (i := W) (by omega)
      have hcr := row_cell o5 (j := W) (by omega)
      have hfz := o5.frozenAt W
      obtain ⟨c, hc⟩ : ∃ c, (wtRow M (C.take k)).getD W 0 = c := ⟨_, rfl⟩
      rw [hc] at hsn hct hcr
      have hst := o5.stored W (.int .i64 (c + 1))
      have htl : (C.take k).length ≤ 256 := by rw [List.length_take]; omega
      obtain ⟨hc0, hc2⟩ := hct
      have hc3 : c ≤ 256 := by omega
      have hW2 : W ≤ M := by omega
      have HW := Lib.hid hW
      have HSN := Lib.hid hsn
      have HST := Lib.hid hst
      clear hsn hst hc hW hts hxx hp5 htl hc2 hw0 hw1
      go_wp2_with (go_at_call 29; refine (spec_l06Weight_c _ _ hx0 hx1).mono ?_; rintro e w' ⟨rfl, rfl⟩; rw [HW.out])
      go_roundw
      case rel =>
        refine ⟨k + 1, by omega, by go_num, ?_, only_setCell (p := ⟨w.heap.size, W, none⟩) hg5 rfl _⟩
        rw [← HSN.out, List.map_set]
        exact HST.out.1
      case measure => simp [intOf]; omega
    · have : k = C.length := by omega
      subst this
      rw [List.take_length] at o5
      go_wp2
      go_ret
      refine ⟨_, rfl, ?_, hB4.grown hg5 hB4.size (fun j hj => by cases hj; exact Nat.le_refl _)⟩
      unfold Ow
      rw [List.length_map, wtRow_len]
      exact o5


set_option maxRecDepth 100000 in
set_option maxHeartbeats 2000000 in
theorem spec_l06Distance_c (w : World) (b B M : Nat) (A : Option Addr) (n cap : Nat) (xs : List Int) (hv : validParB (M : Int) xs = true) (h0 : w.cell? ⟨b, 0, none⟩ = some (.int .i64 (M : Int))) (h1 : w.cell? ⟨b, 1, none⟩ = some (.slice A n cap)) (hbz : b < w.heap.size) (hBz : B ≤ w.heap.size) (hl : xs.length = n) (hx : Sl w B A (xs.map (Value.int .i64))) :
    Calls Try.prog 32 #[.pointer (some ⟨b, 0, none⟩)] w fun e w' => e = .returned (.int .i64 (distV M xs)) ∧ Below w.heap.size w w' := by
  have hpr : parRows M xs = true := by
    have hv2 := hv
    unfold validParB at hv2
    rw [Bool.and_eq_true] at hv2
    exact hv2.1
  obtain ⟨m1, m2, g1, g8, _⟩ := par_facts hpr
  have hM : M ≤ 16 := by omega
  obtain ⟨d, hd⟩ := dist_some hv
  have hdv := dist_val hv hd
  obtain ⟨hd1, hd2, hd3, hd4⟩ := distK_mem hd
  have hws := spec_l06Weights_c w b B M A n cap xs hv h0 h1 hbz hBz hl hx
  have hge : ∀ k, k ≤ M → 0 ≤ (wtRow M (codeL xs)).getD k 0 := fun k hk => (wtRow_count hk).1
  rw [hdv]
  obtain ⟨R, hR⟩ : ∃ R, wtRow M (codeL xs) = R := ⟨_, rfl⟩
  have hRl : R.length = M + 1 := by rw [← hR, wtRow_len]
  rw [hR] at hd3 hd4 hws hge
  have HWS := Lib.hid hws
  have HD4 := Lib.hid hd4
  have HRL := Lib.hid hRl
  have HGE := Lib.hid hge
  clear hv hpr hx hd hdv hR hd4 hRl h0 h1 hws hge
  go_enter Try.func32, Try.ntmps32
  go_wp2_with fail
  refine HWS.out.mono ?_
  rintro e w2 ⟨v, rfl, ho2, hb2⟩
  obtain ⟨S, k2, rfl, hp2⟩ := ho2.opn
  clear ho2
  go_wp2
  go_loop [4] (fun i => ∃ k : Nat, 1 ≤ k ∧ k ≤ d ∧ i = .int .i64 (k : Int)) (fun i => d - (intOf i).toNat)
  case atStart => exact ⟨1, Nat.le_refl _, hd1, rfl⟩
  case round =>
    obtain ⟨k, hk1, hk, rfl⟩ := hrel
    obtain ⟨b2, off, rfl, hbb, hc1⟩ := sl_cell (sl_of_own hp2) (k := k) (by have := HRL.out; omega)
    have hkr : k < R.length := by have := HRL.out; omega
    have hge := HGE.out k (by omega)
    by_cases hlt : k < d
    · have h4 := HD4.out k hk1 hlt
      obtain ⟨y, hy⟩ : ∃ y, R.getD k 0 = y := ⟨_, rfl⟩
      rw [hy] at h4 hc1 hge
      have hy0 : y = 0 := by omega
      subst hy0
      clear hd3 hy h4 hge
      go_wp2
      go_round
      case rel => exact ⟨k + 1, by omega, by omega, by go_num⟩
      case measure => simp [intOf]; omega
    · have : k = d := by omega
      subst this
      obtain ⟨y, hy⟩ : ∃ y, R.getD k 0 = y := ⟨_, rfl⟩
      rw [hy] at hd3 hc1
      have hy0 : (y == 0) = false := by simp; omega
      clear hy hge
      go_wp2
      go_ret
      exact ⟨rfl, hb2⟩


end Go.Proofs.Ytlipejcmjhmnaaa
