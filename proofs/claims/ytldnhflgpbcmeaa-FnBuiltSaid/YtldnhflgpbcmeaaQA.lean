/-
  Contracts: weights of the words of a code, and its distance, of the program and of the reference.
  Conditions: lengths at most 1048576.
-/
import Derived.Test.YtldnhflgpbcmeaaPZ
namespace Go.Proofs.Ytldnhflgpbcmeaa
open Go.RowKit

theorem mk_wide {w : World} {M : Nat} (hM : M ≤ 16) : (Instr.makeSlice 25 (.int .i64 ((M : Int) + 1)) (.int .i64 ((M : Int) + 1))).run Try.prog w = .ok (.slice (some ⟨w.heap.size, 0, none⟩) (M + 1) (M + 1)) (w.alloc (.cells (zeroRow (.int .i64 0) (M + 1)) 2)) := by
  have h := run_mk (P := Try.prog) Try.underlying25 infoInt64 rfl (by decide) (M + 1) (by omega) .i64 .i64 w
  exact h
theorem row_zero (M : Nat) : List.replicate (M + 1) (Value.int .i64 0) = (wtRow M []).map (Value.int .i64) := by
  rw [wtRow_nil, List.map_replicate]
theorem take_snoc {xs : List Int} {k : Nat} (hk : k < xs.length) : xs.take (k + 1) = xs.take k ++ [xs[k]] := List.take_succ_eq_append_getElem hk
theorem wtRow_count {m : Nat} {ws : List Int} {i : Nat} (hi : i ≤ m) : 0 ≤ (wtRow m ws).getD i 0 ∧ (wtRow m ws).getD i 0 ≤ ws.length := by
  rw [wtRow_get m ws i hi]
  have := List.countP_le_length (l := ws) (p := fun x => wt x == (i : Int))
  omega


set_option maxRecDepth 100000 in
set_option maxHeartbeats 2000000 in
theorem impl_WeightsOf_c (w : World) (m : Int) (A : Option Addr) (n cap : Nat) (xs : List Int) (hl : xs.length = n) (hn : n ≤ 1048576) (hx : Sl w w.heap.size A (xs.map (Value.int .i64))) :
    Calls Try.prog 15 #[.agg #[.int .i64 m, .slice A n cap]] w fun e w' => ∃ v, e = .returned (.tuple #[v, .bool (validParB m xs)]) ∧ Ow w' w.heap.size 2 v ((weightsV m xs).map (Value.int .i64)) ∧ Below w.heap.size w w' := by
  have hB0 : Below w.heap.size w (w.alloc (.cells #[.int .i64 m, .slice A n cap] 27)) := (Below.refl _ _).alloc (Nat.le_refl _) _
  cases hv : validParB m xs
  · have e1 : weightsV m xs = [] := by unfold weightsV; rw [hv]; rfl
    rw [e1]
    have HV := Lib.hid hv
    clear hv e1
    go_enter Try.func15, Try.ntmps15
    go_wp2_with fail
    refine (impl_ValidParity_c _ m A n cap xs hl hn ((hx.below hB0).more hB0.size)).mono ?_
    rintro e w2 ⟨rfl, hb2⟩
    rw [HV.out]
    go_wp2
    go_ret2
    exact ⟨_, rfl, World.ownsRow_nil _ _ _ _, hB0.trans (hb2.mono hB0.size)⟩
  · have hpr : parRows m xs = true := by
      unfold validParB at hv
      rw [Bool.and_eq_true] at hv
      exact hv.1
    obtain ⟨m1, m2, g1, g8, hxs⟩ := par_facts hpr
    obtain ⟨M, rfl⟩ : ∃ M : Nat, m = M := ⟨m.toNat, by omega⟩
    have hM : M ≤ 16 := by omega
    have hxs' : ∀ x ∈ xs, 0 ≤ x ∧ x < 2 ^ M := hxs
    have e1 : weightsV (M : Int) xs = wtRow M (codeL xs) := by unfold weightsV; rw [hv]; rfl
    rw [e1]
    have hcl := codeL_len xs
    have hp8 := pow8 (n := xs.length) g8
    obtain ⟨C, hC⟩ : ∃ C, sortL (codeL xs) = C := ⟨_, rfl⟩
    have hCl : C.length ≤ 256 := by rw [← hC, sortL_len]; omega
    have hCb : ∀ x ∈ C, 0 ≤ x ∧ x < 65536 ∧ 0 ≤ wt x ∧ wt x ≤ M := fun x hx => wt_bd16 hM (codeL_bd hM hxs' ((sortL_perm (codeL xs)).mem_iff.1 (by rw [hC]; exact hx)))
    have hperm : wtRow M C = wtRow M (codeL xs) := by rw [← hC]; exact wtRow_perm (sortL_perm _)
    have hcw := fun (W : World) (hW : Sl W W.heap.size A (xs.map (Value.int .i64))) => impl_codeWords_c W (M : Int) A n cap xs hl (by omega) hW
    rw [hC] at hcw
    have HCW := Lib.hid hcw
    have HV := Lib.hid hv
    have HP := Lib.hid hperm
    have HCB := Lib.hid hCb
    have HX := Lib.hid hx
    have hmk := fun W : World => mk_wide (w := W) hM
    clear hv e1 hpr hxs hxs' hcl hp8 hC hCb hperm hcw hx
    go_enter Try.func15, Try.ntmps15
    go_wp2_with fail
    obtain ⟨w1, ew⟩ : ∃ q : World, q = w.alloc (.cells #[.int .i64 (M : Int), .slice A n cap] 27) := ⟨_, rfl⟩
    rw [← ew] at hB0
    have c0 : w1.cell? ⟨w.heap.size, 0, none⟩ = some (.int .i64 (M : Int)) := by rw [ew]; (first | (simp; done) | (simp (disch := (first | (simp; done) | (simp; omega))) [World.cell?_alloc_at]; done) | (simp (disch := (first | (simp; done) | (simp; omega))) [World.cell?_alloc_past]; done) | (simp (disch := (first | (simp; done) | (simp; omega))) [World.cell?_alloc_at, World.cell?_alloc_past]; done) | (simp (disch := (first | (simp; done) | (simp; omega))) [World.frozen?_alloc_at]; done) | (simp (disch := (first | (simp; done) | (simp; omega))) [World.frozen?_alloc_past]; done) | (simp (disch := (first | (simp; done) | (simp; omega))) [World.frozen?_alloc_at, World.frozen?_alloc_past]; done))
    have c1 : w1.cell? ⟨w.heap.size, 1, none⟩ = some (.slice A n cap) := by rw [ew]; (first | (simp; done) | (simp (disch := (first | (simp; done) | (simp; omega))) [World.cell?_alloc_at]; done) | (simp (disch := (first | (simp; done) | (simp; omega))) [World.cell?_alloc_past]; done) | (simp (disch := (first | (simp; done) | (simp; omega))) [World.cell?_alloc_at, World.cell?_alloc_past]; done) | (simp (disch := (first | (simp; done) | (simp; omega))) [World.frozen?_alloc_at]; done) | (simp (disch := (first | (simp; done) | (simp; omega))) [World.frozen?_alloc_past]; done) | (simp (disch := (first | (simp; done) | (simp; omega))) [World.frozen?_alloc_at, World.frozen?_alloc_past]; done))
    have z1 : w.heap.size < w1.heap.size := by rw [ew]; simp
    rw [← ew]
    clear ew
    refine (impl_ValidParity_c w1 M A n cap xs hl hn ((HX.out.below hB0).more hB0.size)).mono ?_
    rintro e w2 ⟨rfl, hb2⟩
    rw [HV.out]
    have d0 := (hb2.cell (p := ⟨w.heap.size, 0, none⟩) z1).trans c0
    have d1 := (hb2.cell (p := ⟨w.heap.size, 1, none⟩) z1).trans c1
    have hB2 : Below w.heap.size w w2 := hB0.trans (hb2.mono hB0.size)
    have z2 : w.heap.size < w2.heap.size := Nat.lt_of_lt_of_le z1 hb2.size
    clear c0 c1 hb2 hB0
    go_wp2_with fail
    have o3 := own_mk w2 w.heap.size 2 (.int .i64 0) (M + 1) (Nat.le_of_lt z2) (by omega)
    rw [row_zero] at o3
    obtain ⟨w3, ew⟩ : ∃ q : World, q = w2.alloc (.cells (zeroRow (.int .i64 0) (M + 1)) 2) := ⟨_, rfl⟩
    rw [← ew] at o3 ⊢
    have hB3 : Below w.heap.size w w3 := by rw [ew]; exact hB2.alloc (Nat.le_of_lt z2) _
    have z3 : w2.heap.size < w3.heap.size := by rw [ew]; simp
    clear ew d0 d1 hB2
    refine (HCW.out w3 ((HX.out.below hB3).more hB3.size)).mono ?_
    rintro e w4 ⟨v, rfl, ho4, hb4⟩
    have o4 := own_below o3 hb4 (Nat.le_refl _)
    have hB4 : Below w.heap.size w w4 := hB3.trans (hb4.mono hB3.size)
    have z4 := hb4.size
    obtain ⟨S, kc, rfl, hp4⟩ := ho4.opn
    have hin := own_in hp4
    clear o3 hB3 ho4 hb4 HCW HX
    go_wp2
    go_loopw [17] (fun i wr => ∃ k : Nat, k ≤ C.length ∧ i = .int .i64 k ∧ wr.ownsRow w.heap.size 2 1 (.slice (some ⟨w2.heap.size, 0, none⟩) (M + 1) (M + 1)) (M + 1) ((wtRow M (C.take k)).map (Value.int .i64)) ∧ w4.grownBy wr (some w2.heap.size)) (fun i _ => C.length - (intOf i).toNat)
    case atStart => exact ⟨0, Nat.zero_le _, rfl, o4, World.grownBy.refl _ _⟩
    case round =>
      clear o4
      obtain ⟨k, hk, rfl, o5, hg5⟩ := hrel
      by_cases hlt : k < C.length
      · have hp5 := own_apart (u := .slice (some ⟨w2.heap.size, 0, none⟩) (M + 1) (M + 1)) hp4 hg5 hin (c := w2.heap.size) (d := w3.heap.size) (fun g hg => by cases hg; exact ⟨Nat.le_refl _, z3⟩) (by omega)
        obtain ⟨b, off, rfl, hbb, hc1⟩ := (sl_of_own hp5).get k hlt
        have hx := HCB.out _ (List.getElem_mem hlt)
        have hts := take_snoc hlt
        obtain ⟨x, hxx⟩ : ∃ x, C[k]'hlt = x := ⟨_, rfl⟩
        rw [hxx] at hx hc1 hts
        obtain ⟨hx0, hx1, hw0, hw1⟩ := hx
        obtain ⟨W, hW⟩ : ∃ W : Nat, wt x = W := ⟨(wt x).toNat, by omega⟩
        have hsn := wtRow_snoc M (C.take k) x (by omega) (by omega)
        rw [← hts, hW, Int.toNat_natCast] at hsn
        have hct := wtRow_count (m := M) (ws := C.take k) (i := W) (by omega)
        have hcr := row_cell o5 (j := W) (by omega)
        have hfz := o5.frozenAt W
        obtain ⟨c, hc⟩ : ∃ c, (wtRow M (C.take k)).getD W 0 = c := ⟨_, rfl⟩
        rw [hc] at hsn hct hcr
        have hst := o5.stored W (.int .i64 (c + 1))
        have htl : (C.take k).length ≤ 256 := by rw [List.length_take]; omega
        obtain ⟨hc0, hc2⟩ := hct
        have hc3 : c ≤ 256 := by omega
        have hW2 : W ≤ M := by omega
        have HW := Lib.hid hW
        have HSN := Lib.hid hsn
        have HST := Lib.hid hst
        clear hsn hst hc hW hts hxx hp5 htl hc2 hw0 hw1
        go_wp2_with (go_at_call 31; refine (impl_weightOf_w _ _ hx0 hx1).mono ?_; rintro e w' ⟨rfl, rfl⟩; rw [HW.out])
        go_roundw
        case rel =>
          refine ⟨k + 1, by omega, by go_num, ?_, only_setCell (p := ⟨w2.heap.size, W, none⟩) hg5 rfl _⟩
          rw [← HSN.out, List.map_set]
          exact HST.out.1
        case measure => simp [intOf]; omega
      · have : k = C.length := by omega
        subst this
        rw [List.take_length] at o5
        go_wp2
        go_ret2
        refine ⟨_, rfl, ?_, hB4.grown hg5 hB4.size (fun j hj => by cases hj; exact Nat.le_of_lt z2)⟩
        rw [← HP.out]
        unfold Ow
        rw [List.length_map, wtRow_len]
        exact o5

end Go.Proofs.Ytldnhflgpbcmeaa
